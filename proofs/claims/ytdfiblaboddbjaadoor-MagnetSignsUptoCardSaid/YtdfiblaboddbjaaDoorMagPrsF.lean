/-
  The document's first: the infohash that the value of xt tells.
-/
import Derived.Test.YtdfiblaboddbjaaDoorMagPrsR
import Derived.Test.YtdfiblaboddbjaaDoorMagTwin2
import Derived.Test.YtdfiblaboddbjaaDoorMagHex
namespace Go.Proofs.YtdfiblaboddbjaaDoor.Prs
open Go.RowKit Go.Proofs.YtdfiblaboddbjaaDoor.Base Go.Proofs.YtdfiblaboddbjaaDoor.Rep Go.Proofs.YtdfiblaboddbjaaDoor.Mag Go.Proofs.YtdfiblaboddbjaaDoor.Has
set_option linter.unusedVariables false
set_option linter.unusedSimpArgs false

section
variable {P : Program} {fn : Func} {p q r s : Tmp} {ty : TypeId} {tmps : Array Value} {w : World} {g : Nat} {t : TypeId} {cs : Array Value} {fr : Nat × Nat} {d : TypeDesc}
/-- Results whose first is a variable of many cells. -/
theorem results_row1 (h : fn.results = #[.cell p ty, .tmp q]) (hp : tmps.getD p undef = .pointer (some ⟨g, 0, none⟩)) (hg : w.heap[g]? = some (.cells cs t fr))
    (hu : P.underlying ty = some d) (hd : (match d with | .struct _ | .array _ _ => true | _ => false) = true) (hi : (P.info? ty).map (·.size) = some cs.size) :
    (results fn tmps).run P w = .ok (.tuple #[.agg cs, tmps.getD q undef]) w := by
  have hp' : tmps[p]?.getD undef = .pointer (some ⟨g, 0, none⟩) := by simpa using hp
  simp [results, h, hp', asAddr, run_loadVar_row w g t ty cs fr d hg hu hd hi]
theorem results_row2 (h : fn.results = #[.cell p ty, .tmp q, .tmp r]) (hp : tmps.getD p undef = .pointer (some ⟨g, 0, none⟩)) (hg : w.heap[g]? = some (.cells cs t fr))
    (hu : P.underlying ty = some d) (hd : (match d with | .struct _ | .array _ _ => true | _ => false) = true) (hi : (P.info? ty).map (·.size) = some cs.size) :
    (results fn tmps).run P w = .ok (.tuple #[.agg cs, tmps.getD q undef, tmps.getD r undef]) w := by
  have hp' : tmps[p]?.getD undef = .pointer (some ⟨g, 0, none⟩) := by simpa using hp
  simp [results, h, hp', asAddr, run_loadVar_row w g t ty cs fr d hg hu hd hi]
theorem results_row3 (h : fn.results = #[.cell p ty, .tmp q, .tmp r, .tmp s]) (hp : tmps.getD p undef = .pointer (some ⟨g, 0, none⟩)) (hg : w.heap[g]? = some (.cells cs t fr))
    (hu : P.underlying ty = some d) (hd : (match d with | .struct _ | .array _ _ => true | _ => false) = true) (hi : (P.info? ty).map (·.size) = some cs.size) :
    (results fn tmps).run P w = .ok (.tuple #[.agg cs, tmps.getD q undef, tmps.getD r undef, tmps.getD s undef]) w := by
  have hp' : tmps[p]?.getD undef = .pointer (some ⟨g, 0, none⟩) := by simpa using hp
  simp [results, h, hp', asAddr, run_loadVar_row w g t ty cs fr d hg hu hd hi]
end

def hcells (l : List UInt8) : List Value := l.map fun b => Value.int .u8 (b.toNat : Int)
/-- A hash in a block of its own. -/
def Hb (w : World) (b : Nat) (l : List UInt8) : Prop := l.length = 32 ∧ w.heap[b]? = some (.cells (hcells l).toArray 23 (0, 0))
abbrev zero32 : List UInt8 := [0, 0, 0, 0, 0, 0, 0, 0, 0, 0, 0, 0, 0, 0, 0, 0, 0, 0, 0, 0, 0, 0, 0, 0, 0, 0, 0, 0, 0, 0, 0, 0]
abbrev zeroH : Array Value := #[Value.int .u8 0, Value.int .u8 0, Value.int .u8 0, Value.int .u8 0, Value.int .u8 0, Value.int .u8 0, Value.int .u8 0, Value.int .u8 0, Value.int .u8 0, Value.int .u8 0, Value.int .u8 0, Value.int .u8 0, Value.int .u8 0, Value.int .u8 0, Value.int .u8 0, Value.int .u8 0, Value.int .u8 0, Value.int .u8 0, Value.int .u8 0, Value.int .u8 0, Value.int .u8 0, Value.int .u8 0, Value.int .u8 0, Value.int .u8 0, Value.int .u8 0, Value.int .u8 0, Value.int .u8 0, Value.int .u8 0, Value.int .u8 0, Value.int .u8 0, Value.int .u8 0, Value.int .u8 0]
theorem zeroH_eq : (hcells zero32).toArray = zeroH := by kernel_rfl
theorem sizeH0 : (Tryd.prog.info? 23).map (·.size) = some 32 := by kernel_rfl
theorem sizeH {l : List UInt8} (h : l.length = 32) : (Tryd.prog.info? 23).map (·.size) = some (hcells l).toArray.size := by
  simp only [hcells, List.size_toArray, List.length_map, h]; exact sizeH0
theorem hcells_one (l : List UInt8) : ∀ v ∈ hcells l, v.oneCell' = true := by
  intro v hv; simp only [hcells, List.mem_map] at hv; obtain ⟨b, _, rfl⟩ := hv; rfl
theorem Hb.lt {w : World} {b : Nat} {l : List UInt8} (h : Hb w b l) : b < w.heap.size := (Array.getElem?_eq_some_iff.1 h.2).1
theorem Hb.below {w w' : World} {b B : Nat} {l : List UInt8} (h : Hb w b l) (hb : Below B w w') (hB : b < B) : Hb w' b l := ⟨h.1, (hb.block b hB).trans h.2⟩
theorem Hb.cell {w : World} {b : Nat} {l : List UInt8} (h : Hb w b l) (j : Nat) (hj : j < l.length) : w.cell? ⟨b, j, none⟩ = some (.int .u8 (l[j].toNat : Int)) := by
  rw [Lib.cell_of_heap h.2]; simp [hcells, hj]
theorem Hb.frozen {w : World} {b : Nat} {l : List UInt8} (h : Hb w b l) (j : Nat) : w.frozen? ⟨b, j, none⟩ = false := Lib.frozen_of_heap h.2 j
theorem Hb.set {w : World} {b : Nat} {l : List UInt8} (h : Hb w b l) (j : Nat) (c : UInt8) : Hb (w.setCell ⟨b, j, none⟩ (.int .u8 (c.toNat : Int))) b (l.set j c) := by
  refine ⟨by simp [h.1], ?_⟩
  rw [heap_setCell_same w b j _ 23 _ h.2]
  simp [hcells, List.map_set]
theorem Hb.other {w : World} {b q j : Nat} {l : List UInt8} (h : Hb w b l) (hq : b ≠ q) (u : Value) : Hb (w.setCell ⟨q, j, none⟩ u) b l := ⟨h.1, (Below.heap_setCell w ⟨q, j, none⟩ u b hq).trans h.2⟩

def mix (h : List UInt8) (k : Nat) : List UInt8 := h.take k ++ List.replicate (32 - k) 0
theorem mix_set (h : List UInt8) (hl : h.length = 32) (k : Nat) (hk : k < 32) : (mix h k).set k (h[k]'(by omega)) = mix h (k + 1) := by
  have h1 : h.take (k + 1) = h.take k ++ [h[k]'(by omega)] := ltake_snoc h k (by omega)
  have h2 : List.replicate (32 - k) (0 : UInt8) = 0 :: List.replicate (32 - (k + 1)) 0 := by
    rw [show 32 - k = (32 - (k + 1)) + 1 by omega, List.replicate_succ]
  unfold mix
  rw [h1, h2, List.set_append_right _ _ (by simp; omega)]
  rw [List.length_take, show min k h.length = k by omega, Nat.sub_self, List.set_cons_zero, List.append_assoc]
  rfl
theorem mix_len (h : List UInt8) (hl : h.length = 32) (k : Nat) (hk : k ≤ 32) : (mix h k).length = 32 := by simp [mix, hl]; omega
theorem mix_all (h : List UInt8) (hl : h.length = 32) : mix h 32 = h := by simp [mix, ← hl]

def firstV : Option (List UInt8) → List UInt8
  | some h => h
  | none => zero32
def firstE : Option (List UInt8) → Int
  | some _ => 0
  | none => 223
theorem unhex_len : ∀ (l h : List UInt8), unhexL l = some h → h.length * 2 = l.length
  | [], h, e => by simp [unhexL] at e; subst e; rfl
  | [_], h, e => by simp [unhexL] at e
  | a :: b :: r, h, e => by
    simp only [unhexL] at e
    split at e
    · cases e
    · obtain ⟨h', h1, rfl⟩ := Option.map_eq_some_iff.1 e
      have := unhex_len r h' h1
      simp; omega
theorem first_len {v h : List UInt8} (e : firstH v = some h) : h.length = 32 := by
  unfold firstH at e
  split at e
  · rename_i hc
    have := unhex_len _ _ e
    simp at this
    omega
  · cases e

theorem firstV_len (v : List UInt8) : (firstV (firstH v)).length = 32 := by
  cases h : firstH v with
  | none => rfl
  | some l => exact first_len h

set_option maxHeartbeats 4000000 in
set_option maxRecDepth 100000 in
theorem rfirst (s : ByteArray) (w : World) (hs : s.size ≤ 1048576) :
    Calls Tryd.prog 71 #[.string s] w fun e w' => e = .returned (.tuple #[.agg (hcells (firstV (firstH s.data.toList))).toArray, .int .i64 (firstE (firstH s.data.toList))]) ∧ Below w.heap.size w w' := by
  have hsl : s.data.toList.length = s.size := by simp
  have hz1 : Hb ((w.alloc (.cells zeroH 23)).alloc (.cells zeroH 23)) w.heap.size zero32 := ⟨rfl, by rw [zeroH_eq]; exact heap_alloc2_old w _ _⟩
  have hz2 : Hb ((w.alloc (.cells zeroH 23)).alloc (.cells zeroH 23)) (w.heap.size + 1) zero32 := ⟨rfl, by rw [zeroH_eq]; exact heap_alloc2_new w _ _⟩
  have hB0 : Below w.heap.size w ((w.alloc (.cells zeroH 23)).alloc (.cells zeroH 23)) := ((Below.refl _ _).alloc (Nat.le_refl _) _).alloc (by simp) _
  have hz0 : ((w.alloc (.cells zeroH 23)).alloc (.cells zeroH 23)).heap.size = w.heap.size + 2 := by simp
  obtain ⟨W0, hW0⟩ : ∃ W0, (w.alloc (.cells zeroH 23)).alloc (.cells zeroH 23) = W0 := ⟨_, rfl⟩
  rw [hW0] at hz1 hz2 hB0 hz0
  have HZ1 := Lib.hid hz1
  have HZ2 := Lib.hid hz2
  have HSZ := Lib.hid (sizeH (l := zero32) rfl)
  clear hz1 hz2
  go_enter Tryd.func71, Tryd.ntmps71
  have bad : ∀ (w5 : World), Hb w5 w.heap.size zero32 → (storeCells ⟨w.heap.size, 0, none⟩ (hcells zero32)).run Tryd.prog w5 = .ok () (w5.setRow w.heap.size (hcells zero32).toArray) ∧ Hb (w5.setRow w.heap.size (hcells zero32).toArray) w.heap.size zero32 := fun w5 h5 =>
    ⟨run_storeCells_list w5 w.heap.size 23 _ _ h5.2 rfl (hcells_one _), rfl, setRow_heap _ _ _ _ _ _ h5.2⟩
  have hbs : ∀ (w5 : World), Below w.heap.size w w5 → Below w.heap.size w (w5.setRow w.heap.size (hcells zero32).toArray) := fun w5 h0 =>
    ⟨h0.os, h0.tape, h0.output, by simpa using h0.size, fun k hk => (setRow_other _ _ _ _ (by omega)).trans (h0.block k hk)⟩
  have HBS := Lib.hid hbs
  have hll : (hcells zero32).length = 32 := rfl
  by_cases h77 : s.size = 77
  · have heq : ((s.size : Int) == 77) = true := by simp [h77]
    go_wp2_with fail
    refine (rstarts s ⟨#[117, 114, 110, 58, 98, 116, 109, 104, 58, 49, 50, 50, 48]⟩ W0).mono ?_
    rintro e w1 ⟨rfl, rfl⟩
    obtain ⟨pb, hpb⟩ : ∃ pb, preB (⟨#[117, 114, 110, 58, 98, 116, 109, 104, 58, 49, 50, 50, 48]⟩ : ByteArray).data.toList s = pb := ⟨_, rfl⟩
    rw [hpb]
    have hpb' : newHash.isPrefixOf s.data.toList = pb := hpb
    cases pb with
    | false =>
      have HBAD : Hid (firstH s.data.toList = none) := by unfold firstH; rw [if_neg (by rw [hpb']; simp)]; rfl
      obtain ⟨hs1, hs2⟩ := bad _ HZ1.out
      obtain ⟨W5, hW5⟩ : ∃ W5, w1.setRow w.heap.size (hcells zero32).toArray = W5 := ⟨_, rfl⟩
      rw [hW5] at hs1 hs2
      have HR := Lib.hid hs2
      have hB5 : Below w.heap.size w W5 := hW5 ▸ HBS.out _ hB0
      clear hs2 hpb hpb'
      go_wp2_with (refine wpList_load_row rfl 23 _ rfl (w.heap.size + 1) rfl 23 (hcells zero32).toArray (0, 0) _ HZ2.out.2 Tryd.underlying23 rfl HSZ.out ?_)
      refine bodyPost_ret (results_row1 rfl rfl HR.out.2 Tryd.underlying23 rfl HSZ.out) rfl ⟨by rw [HBAD.out]; rfl, hB5⟩
    | true =>
      have hrs : (s.extract 13 77).data.toList = s.data.toList.drop 13 := by
        simp [ByteArray.data_extract]
        rw [List.take_of_length_le (by simp; omega)]
      have hrz : (s.extract 13 77).size ≤ 1048576 := by simp [ByteArray.size_extract]; omega
      have hcall := runhex (s.extract 13 77) w1 hrz
      rw [hrs] at hcall
      have HCALL := Lib.hid hcall
      clear hcall
      have h13 : (13 : Int) ≤ (s.size : Int) := by omega
      have hfh : firstH s.data.toList = unhexL (s.data.toList.drop 13) := by unfold firstH; rw [if_pos ⟨by omega, hpb'⟩]
      have HFH := Lib.hid hfh
      have HRS := Lib.hid hrs
      clear hpb hpb' hfh hrs
      go_wp2_with fail
      refine HCALL.out.mono ?_
      rintro e w2 ⟨⟨v, rfl, hv⟩, hb2⟩
      have hB2 : Below w.heap.size w w2 := hB0.trans (hb2.mono hB0.size)
      have HY1 : Hid (Hb w2 w.heap.size zero32) := HZ1.out.below hb2 (by omega)
      have HY2 : Hid (Hb w2 (w.heap.size + 1) zero32) := HZ2.out.below hb2 (by omega)
      have hsz2 : w.heap.size + 2 ≤ w2.heap.size := by have := hb2.size; omega
      have HB2 := Lib.hid hb2
      clear hb2
      cases hu : unhexL (s.data.toList.drop 13) with
      | none =>
        have HBAD : Hid (firstH s.data.toList = none) := by rw [HFH.out, hu]; rfl
        obtain ⟨hs1, hs2⟩ := bad _ HY1.out
        obtain ⟨W5, hW5⟩ : ∃ W5, w2.setRow w.heap.size (hcells zero32).toArray = W5 := ⟨_, rfl⟩
        rw [hW5] at hs1 hs2
        have HR := Lib.hid hs2
        have hB5 : Below w.heap.size w W5 := hW5 ▸ HBS.out _ hB2
        clear hs2 hu hv
        have hE : hexE none = 13 := rfl
        rw [hE]
        go_wp2_with (refine wpList_load_row rfl 23 _ rfl (w.heap.size + 1) rfl 23 (hcells zero32).toArray (0, 0) _ HY2.out.2 Tryd.underlying23 rfl HSZ.out ?_)
        refine bodyPost_ret (results_row1 rfl rfl HR.out.2 Tryd.underlying23 rfl HSZ.out) rfl ⟨by rw [HBAD.out]; rfl, hB5⟩
      | some h =>
        have HOK : Hid (firstH s.data.toList = some h) := by rw [HFH.out, hu]; rfl
        have hl32 : h.length = 32 := first_len HOK.out
        have ho := hv h hu
        obtain ⟨g, cap, rfl, hBg, hgl⟩ := ho.form (by omega)
        have HO := Lib.hid ho
        have HL := Lib.hid hl32
        have hl33 : (h.length : Int) = 32 := by omega
        have hE : hexE (some h) = 0 := rfl
        rw [hE]
        clear hu hv ho
        go_wp2_with fail
        go_loopw [7] (fun v7 wr => ∃ k : Nat, k ≤ 32 ∧ v7 = .int .i64 k ∧ Below w.heap.size w wr ∧ Hid (Hb wr w.heap.size zero32) ∧ Hid (Hb wr (w.heap.size + 1) (mix h k)) ∧ Hid (wr.ownsRow w1.heap.size 5 1 (.slice (some ⟨g, 0, none⟩) h.length cap) h.length (Lib.byteCells h))) (fun v7 _ => 32 - (intOf v7).toNat)
        case atStart => exact ⟨0, Nat.zero_le _, rfl, hB2, HY1, by simpa [mix, Hid] using HY2.out, HO⟩
        case round =>
          obtain ⟨k, hk, rfl, hB, HA, HM, HO⟩ := hrel
          have hk0 : (0 : Int) ≤ (k : Int) := by omega
          by_cases hlt : k < 32
          · have hk1 : (k : Int) < 32 := by omega
            have hkl : k < h.length := by rw [HL.out]; exact hlt
            have hkl' : (k : Int) < (h.length : Int) := by omega
            have hca := HO.out.cellAt k (by omega)
            rw [show (Lib.byteCells h)[k]? = some (.int .u8 (h[k].toNat : Int)) by simp [Lib.byteCells, hkl]] at hca
            have hml : (mix h k).length = 32 := mix_len h HL.out k hk
            have hcb := HM.out.cell k (by omega)
            have hfb := HM.out.frozen k
            have hM2 := HM.out.set k h[k]
            rw [mix_set h HL.out k hlt] at hM2
            have HM2 := Lib.hid hM2
            have HA2 := Lib.hid (HA.out.other (j := k) (q := w.heap.size + 1) (by omega) (.int .u8 (h[k].toNat : Int)))
            have HO2 := Lib.hid (ownsRow_setCell_below HO.out (a := ⟨w.heap.size + 1, k, none⟩) (by simp; omega) (.int .u8 (h[k].toNat : Int)))
            have hB3 : Below w.heap.size w (wr.setCell ⟨w.heap.size + 1, k, none⟩ (.int .u8 (h[k].toNat : Int))) := hB.setCell (p := ⟨w.heap.size + 1, k, none⟩) (by simp) _
            clear hM2
            go_wp2
            exact ⟨⟨k + 1, by omega, by go_num, hB3, HA2, HM2, HO2⟩, by simp [intOf]; omega⟩
          · obtain rfl : k = 32 := by omega
            have HM3 : Hid (Hb wr (w.heap.size + 1) h) := by
              have := HM.out
              rw [mix_all h HL.out] at this
              exact this
            have HS2 := Lib.hid (sizeH HL.out)
            have hs1 := run_storeCells_list (P := Tryd.prog) wr w.heap.size 23 _ (hcells h) HA.out.2 (by simp [hcells, HL.out]) (hcells_one _)
            have HR : Hid (Hb (wr.setRow w.heap.size (hcells h).toArray) w.heap.size h) := ⟨HL.out, setRow_heap _ _ _ _ _ _ HA.out.2⟩
            have hB5 : Below w.heap.size w (wr.setRow w.heap.size (hcells h).toArray) := ⟨hB.os, hB.tape, hB.output, by simpa using hB.size, fun k hk => (setRow_other _ _ _ _ (by omega)).trans (hB.block k hk)⟩
            have hll2 : (hcells h).length = 32 := by simp [hcells, HL.out]
            go_wp2_with (refine wpList_load_row rfl 23 _ rfl (w.heap.size + 1) rfl 23 (hcells h).toArray (0, 0) _ HM3.out.2 Tryd.underlying23 rfl HS2.out ?_)
            refine bodyPost_ret (results_row1 rfl rfl HR.out.2 Tryd.underlying23 rfl HS2.out) rfl ⟨by rw [HOK.out]; rfl, hB5⟩
  · have HBAD : Hid (firstH s.data.toList = none) := by unfold firstH; rw [if_neg (by rw [hsl]; omega)]; rfl
    have hne : ((s.size : Int) == 77) = false := by simp; omega
    obtain ⟨hs1, hs2⟩ := bad _ HZ1.out
    obtain ⟨W5, hW5⟩ : ∃ W5, W0.setRow w.heap.size (hcells zero32).toArray = W5 := ⟨_, rfl⟩
    rw [hW5] at hs1 hs2
    have HR := Lib.hid hs2
    have hB5 : Below w.heap.size w W5 := hW5 ▸ HBS.out _ hB0
    clear hs2
    go_wp2_with (refine wpList_load_row rfl 23 _ rfl (w.heap.size + 1) rfl 23 (hcells zero32).toArray (0, 0) _ HZ2.out.2 Tryd.underlying23 rfl HSZ.out ?_)
    refine bodyPost_ret (results_row1 rfl rfl HR.out.2 Tryd.underlying23 rfl HSZ.out) rfl ⟨by rw [HBAD.out]; rfl, hB5⟩

end Go.Proofs.YtdfiblaboddbjaaDoor.Prs
