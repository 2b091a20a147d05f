import Derived.Test.YtdfiblaboddbjaaDoorMagHex
import Derived.Lib.Join
import Derived.Lib.ItoaLen
import Derived.Deep.DeepCutAuto
namespace Go.Proofs.YtdfiblaboddbjaaDoor.Has
open Go.RowKit Go.Proofs.YtdfiblaboddbjaaDoor.Base Go.Proofs.YtdfiblaboddbjaaDoor.Rep Go.Proofs.YtdfiblaboddbjaaDoor.Mag
set_option linter.unusedVariables false
set_option linter.unusedSimpArgs false

/-- The table of the library's that Itoa reads. -/
def PT (w : World) : Prop := Lib.TabIs Tryd.prog w "internal/strconv.uint64pow10" .u64 Lib.pow10Tab
theorem PT.keep {w w' : World} (h : PT w) (hb : Below w.heap.size w w') : PT w' := by
  unfold PT Lib.TabIs World.var? at h ⊢
  cases hg : Tryd.prog.globalNamed "internal/strconv.uint64pow10" with
  | none => rw [hg] at h; cases h
  | some g =>
    rw [hg] at h
    simp only [Option.bind_some] at h ⊢
    have hlt : g < w.heap.size := by
      rcases Nat.lt_or_ge g w.heap.size with h' | h'
      · exact h'
      · rw [Array.getElem?_eq_none h'] at h; cases h
    rw [hb.block g hlt]
    exact h

theorem below_grow' (w : World) (n : Nat) (os : Array Obj) : Below w.heap.size w (Sort.grow (w.drewN n) os) :=
  ⟨rfl, rfl, rfl, by show w.heap.size ≤ (w.heap ++ os).size; rw [Array.size_append]; omega, fun k hk => by
    show (w.heap ++ os)[k]? = w.heap[k]?
    rw [Array.getElem?_append_left hk]⟩

theorem itoaC (n : Int) (h0 : -9223372036854775808 ≤ n) (h1 : n ≤ 9223372036854775807) (w : World) (hp : PT w) :
    Calls Tryd.prog 57 #[.int .i64 n] w fun e w' => e = .returned (.string ⟨(Lib.itoa n).toArray⟩) ∧ Below w.heap.size w w' := by
  refine (Tryd.strconv_Itoa n h0 h1 w hp).mono ?_
  rintro e w' ⟨rfl, k, os, rfl⟩
  exact ⟨rfl, below_grow' w k os⟩

def numR (r : Int × Int) : List UInt8 := Lib.itoa r.1 ++ (if 1 < r.2 then 45 :: Lib.itoa (r.1 + r.2 - 1) else [])
def baseL (X : Lk) : List UInt8 := [109, 97, 103, 110, 101, 116, 58, 63, 120, 116, 61, 117, 114, 110, 58, 98, 116, 109, 104, 58, 49, 50, 50, 48] ++ hxL X.info
def nameL (X : Lk) : List UInt8 := baseL X ++ (if X.name = ⟨#[]⟩ then [] else [38, 100, 110, 61] ++ escL X.name.data.toList)
def soK (l : List (Int × Int)) : Nat → List UInt8
  | 0 => []
  | k + 1 => soK l k ++ (if k = 0 then [38, 115, 111, 61] else [44]) ++ numR (l.getD k (0, 0))
def trK (l : List ByteArray) (k : Nat) : List UInt8 := (l.take k).flatMap fun t => [38, 116, 114, 61] ++ escL t.data.toList
def peK (l : List ByteArray) (k : Nat) : List UInt8 := (l.take k).flatMap fun t => [38, 120, 46, 112, 101, 61] ++ escL t.data.toList
def prK (X : Lk) (k : Nat) : List UInt8 := (List.range k).flatMap fun j => 38 :: escL (X.xk j).data.toList ++ 61 :: escL (textV (X.xv j)).data.toList
def soL (X : Lk) : List UInt8 := nameL X ++ soK X.only X.only.length
def trL (X : Lk) : List UInt8 := soL X ++ trK X.trackers X.trackers.length
def peL (X : Lk) : List UInt8 := trL X ++ peK X.peers X.peers.length
def textL (X : Lk) : List UInt8 := peL X ++ prK X X.xn

theorem trK_succ (l : List ByteArray) (k : Nat) (h : k < l.length) : trK l (k + 1) = trK l k ++ ([38, 116, 114, 61] ++ escL l[k].data.toList) := by
  unfold trK; rw [ltake_snoc l k h, List.flatMap_append]; simp only [List.flatMap_cons, List.flatMap_nil, List.append_nil]
theorem peK_succ (l : List ByteArray) (k : Nat) (h : k < l.length) : peK l (k + 1) = peK l k ++ ([38, 120, 46, 112, 101, 61] ++ escL l[k].data.toList) := by
  unfold peK; rw [ltake_snoc l k h, List.flatMap_append]; simp only [List.flatMap_cons, List.flatMap_nil, List.append_nil]
theorem prK_succ (X : Lk) (k : Nat) : prK X (k + 1) = prK X k ++ (38 :: escL (X.xk k).data.toList ++ 61 :: escL (textV (X.xv k)).data.toList) := by
  unfold prK; rw [List.range_succ]; simp
theorem isEmpty_str (s : ByteArray) : s.toList.isEmpty = decide (s = ⟨#[]⟩) := by
  rw [← str_beq, Lib.toList_data ⟨#[]⟩]
  cases s.toList <;> rfl
theorem data_app (a b : ByteArray) : (a ++ b).data.toList = a.data.toList ++ b.data.toList := by simp

theorem numR_len (r : Int × Int) (h : 0 ≤ r.1 ∧ r.1 < 4096 ∧ 1 ≤ r.2 ∧ r.2 ≤ 4096 - r.1) : (numR r).length ≤ 43 := by
  have h1 := Lib.itoa_length_le r.1 (by omega) (by omega)
  have h2 := Lib.itoa_length_le (r.1 + r.2 - 1) (by omega) (by omega)
  unfold numR
  split <;> simp <;> omega
theorem soK_len (l : List (Int × Int)) (hw : whole l) : ∀ k, k ≤ l.length → (soK l k).length ≤ 47 * k
  | 0, _ => by simp [soK]
  | k + 1, h => by
    have ih := soK_len l hw k (by omega)
    have h1 := numR_len (l.getD k (0, 0)) (by
      have := hw k (by omega)
      simpa [List.getD, List.getElem?_eq_getElem (show k < l.length by omega)] using this)
    rw [soK]
    split <;> simp only [List.length_append, List.length_cons, List.length_nil] <;> omega
theorem nameL_len (X : Lk) (hi : X.info.length = 32) (hn : X.name.size ≤ 1048576) : (nameL X).length ≤ 3145820 := by
  have h1 := hxL_len X.info
  have h2 := escL_len X.name.data.toList
  have h3 : X.name.data.toList.length = X.name.size := by simp
  unfold nameL baseL
  split <;> simp <;> omega
theorem trK_len (l : List ByteArray) (hs : ∀ (j : Nat) (s : ByteArray), l[j]? = some s → s.size ≤ 1048576) : ∀ k, k ≤ l.length → (trK l k).length ≤ 3145732 * k
  | 0, _ => by simp [trK]
  | k + 1, h => by
    have ih := trK_len l hs k (by omega)
    have h1 := hs k l[k] (by simp [show k < l.length by omega])
    have h2 := escL_len l[k].data.toList
    have h3 : l[k].data.toList.length = l[k].size := by simp
    rw [trK_succ l k (by omega)]
    simp; omega
theorem peK_len (l : List ByteArray) (hs : ∀ (j : Nat) (s : ByteArray), l[j]? = some s → s.size ≤ 1048576) : ∀ k, k ≤ l.length → (peK l k).length ≤ 3145734 * k
  | 0, _ => by simp [peK]
  | k + 1, h => by
    have ih := peK_len l hs k (by omega)
    have h1 := hs k l[k] (by simp [show k < l.length by omega])
    have h2 := escL_len l[k].data.toList
    have h3 : l[k].data.toList.length = l[k].size := by simp
    rw [peK_succ l k (by omega)]
    simp; omega
theorem prK_len (X : Lk) (hs : ∀ j, j < X.xn → (X.xk j).size ≤ 1048576 ∧ (textV (X.xv j)).size ≤ 1048576) : ∀ k, k ≤ X.xn → (prK X k).length ≤ 6291458 * k
  | 0, _ => by simp [prK]
  | k + 1, h => by
    have ih := prK_len X hs k (by omega)
    have h1 := hs k (by omega)
    have h2 := escL_len (X.xk k).data.toList
    have h3 : (X.xk k).data.toList.length = (X.xk k).size := by simp
    have h4 := escL_len (textV (X.xv k)).data.toList
    have h5 : (textV (X.xv k)).data.toList.length = (textV (X.xv k)).size := by simp
    rw [prK_succ X k]
    simp; omega

theorem soL_len (X : Lk) (hi : X.info.length = 32) (hn : X.name.size ≤ 1048576) (hw : whole X.only) (h20 : X.only.length ≤ 1048576) : (soL X).length ≤ 67108864 := by
  have h1 := nameL_len X hi hn
  have h2 := soK_len X.only hw _ (Nat.le_refl _)
  unfold soL; rw [List.length_append]; omega
theorem trL_len (X : Lk) (hi : X.info.length = 32) (hn : X.name.size ≤ 1048576) (hw : whole X.only) (h20 : X.only.length ≤ 1048576) (h21 : X.trackers.length ≤ 1048576) (hs : ∀ (j : Nat) (s : ByteArray), X.trackers[j]? = some s → s.size ≤ 1048576) : (trL X).length ≤ 4398046511104 := by
  have h1 := soL_len X hi hn hw h20
  have h2 := trK_len X.trackers hs _ (Nat.le_refl _)
  unfold trL; rw [List.length_append]; omega
theorem peL_len (X : Lk) (hi : X.info.length = 32) (hn : X.name.size ≤ 1048576) (hw : whole X.only) (h20 : X.only.length ≤ 1048576) (h21 : X.trackers.length ≤ 1048576) (h22 : X.peers.length ≤ 1048576) (hs : ∀ (j : Nat) (s : ByteArray), X.trackers[j]? = some s → s.size ≤ 1048576) (hs' : ∀ (j : Nat) (s : ByteArray), X.peers[j]? = some s → s.size ≤ 1048576) : (peL X).length ≤ 8796093022208 := by
  have h1 := trL_len X hi hn hw h20 h21 hs
  have h2 := peK_len X.peers hs' _ (Nat.le_refl _)
  unfold peL; rw [List.length_append]; omega
theorem RS.small {w : World} {ok : Nat → Prop} {l : List ByteArray} {v : Value} (h : RS w ok l v) : ∀ (j : Nat) (s : ByteArray), l[j]? = some s → s.size ≤ 1048576 := by
  obtain ⟨a, c, rfl, hn, ⟨_, h20, hnil⟩, hh⟩ := h
  intro j s hj
  rcases hh with h0 | ⟨b, o, rfl, h⟩
  · rw [List.length_eq_zero_iff.1 h0] at hj; simp at hj
  · exact (h j s hj).2

/-- an owned row's cells -/
theorem own_cells {w : World} {B e : Nat} {v : Value} {l : List UInt8} (h : w.ownsRow B e 1 v l.length (Lib.byteCells l)) (h0 : l ≠ []) :
    ∃ g cap, v = .slice (some ⟨g, 0, none⟩) l.length cap ∧ l.length ≤ cap ∧ cap ≤ maxLen ∧ g < w.heap.size ∧ ∀ j (h : j < l.length), w.cell? ⟨g, 0 + j, none⟩ = some (.int .u8 l[j].toNat) := by
  obtain ⟨hl, h⟩ := h
  rcases h with ⟨rfl, hn⟩ | ⟨g, cap, cur, rfl, hB, hg, hn, hc, hz, hx⟩
  · exact absurd (List.length_eq_zero_iff.1 hn) h0
  · refine ⟨g, cap, rfl, hn, hc, (Array.getElem?_eq_some_iff.1 hg).1, fun j hj => ?_⟩
    have h2 : (cur.toList.take (l.length * 1))[j]? = cur[j]? := by rw [List.getElem?_take_of_lt (by omega)]; simp
    rw [hx] at h2
    simp only [World.cell?, hg]
    simp only [Nat.zero_add]
    rw [← h2]
    simp [Lib.byteCells, hj]

set_option maxHeartbeats 2000000 in
set_option maxRecDepth 100000 in
theorem rtext (ok : Nat → Prop) (X : Lk) (tv pv ov mv : Value) (w : World) (hX : RL w ok X tv pv ov mv) (hwh : whole X.only) (hpt : PT w) :
    Calls Tryd.prog 32 #[.agg (lcells X tv pv ov mv).toArray] w fun e w' => e = .returned (.string ⟨(textL X).toArray⟩) ∧ Below w.heap.size w w' := by
  have hi := hX.info
  have hB0 : Below w.heap.size w (w.alloc (.cells (lcells X tv pv ov mv).toArray 28)) := (Below.refl _ _).alloc (Nat.le_refl _) _
  have hA : Lb (w.alloc (.cells (lcells X tv pv ov mv).toArray 28)) w.heap.size 28 X tv pv ov mv := heap_alloc_new w _
  obtain ⟨W0, hW0⟩ : ∃ W0, w.alloc (.cells (lcells X tv pv ov mv).toArray 28) = W0 := ⟨_, rfl⟩
  rw [hW0] at hB0 hA
  have HA := Lib.hid hA
  have HI := Lib.hid hi
  have HX := Lib.hid hX
  have HPT := Lib.hid hpt
  have HWH := Lib.hid hwh
  obtain ⟨a, c, rfl, hn, ⟨hcm, hn20, -⟩, ha⟩ := hX.only
  have HOO := Lib.hid ha
  have hM1 := RS.small hX.trackers
  have hM2 := RS.small hX.peers
  obtain ⟨a1, c1, rfl, hn1, hcm1, h201, hs1⟩ := SS.of hX.trackers
  obtain ⟨a2, c2, rfl, hn2, hcm2, h202, hs2⟩ := SS.of hX.peers
  obtain ⟨a3, c3, rfl, hn3, ⟨hcm3, h203, -⟩, ha3⟩ := hX.more
  have HS1 := Lib.hid hs1
  have HS2 := Lib.hid hs2
  have HM1 := Lib.hid hM1
  have HM2 := Lib.hid hM2
  have HPP := Lib.hid ha3
  have HMP : Hid (∀ j, j < X.xn → (X.xk j).size ≤ 1048576 ∧ (textV (X.xv j)).size ≤ 1048576) := by
    intro j hj
    rcases ha3 with h0 | ⟨B, o, rfl, ha⟩
    · omega
    · obtain ⟨cs, _, hz, hrv⟩ := ha j hj
      refine ⟨hz, ?_⟩
      cases hx : X.xv j with
      | leaf => rw [hx] at hrv; exact (hrv : False).elim
      | mk kd i t n l m dk dv =>
        rw [hx] at hrv
        obtain ⟨_, _, _, hts, _⟩ := hrv
        exact hts
  clear ha ha3 hs1 hs2 hM1 hM2
  clear hA hi hpt hwh
  go_enter Tryd.func32, Tryd.ntmps32
  go_wp2
  go_loopw [3, 4] (fun v3 v4 wr => ∃ k : Nat, k ≤ 32 ∧ v4 = .int .i64 k ∧ Below w.heap.size w wr ∧ Hid (Lb wr w.heap.size 28 X (.slice a1 X.trackers.length c1) (.slice a2 X.peers.length c2) (.slice a X.only.length c) (.slice a3 X.xn c3)) ∧ Hid (wr.ownsRow (w.heap.size + 1) 5 1 v3 (X.info.take k).length (Lib.byteCells (X.info.take k)))) (fun _ v4 _ => 32 - (intOf v4).toNat)
  case atStart => exact ⟨0, Nat.zero_le _, rfl, hB0, HA, ⟨rfl, Or.inl ⟨rfl, rfl⟩⟩⟩
  case round =>
    obtain ⟨k, hk, rfl, hB, HA, HO⟩ := hrel
    have hw0 := hB.size
    have hlb := HA.out.lt
    have hil := HI.out
    by_cases hlt : k < 32
    · have x0 : wr.cell? ⟨w.heap.size, k, none⟩ = some (.int .u8 (X.info[k]'(by omega)).toNat) := by
        have := HA.out.info HI.out k (.int .u8 (X.info[k]'(by omega)).toNat) (by simp [show k < X.info.length by omega])
        simpa using this
      have hk0 : (0 : Int) ≤ (k : Int) := by omega
      have hk1 : (k : Int) < 32 := by omega
      have htk : (X.info.take k).length = k := by simp; omega
      go_wp2_with (at_builtin; refine wpList_app1 rfl _ _ 77 rfl (w.heap.size + 1) 5 (.int .u8 0) 1 infoByte rfl Tryd.underlying77 _ _ _ rfl (HO.out.alloc _) wr.heap.size _ rfl (by simp; rfl) rfl ?c1 ?c2 ?c3 ?_)
      case c1 => unfold maxLen; omega
      case c2 => omega
      case c3 => simp; omega
      intro g' cap w1 ho1 hb1 _
      have hba := hB.alloc hw0 (.cells #[.int .u8 (X.info[k]'(by omega)).toNat] 5)
      have hA1 : Hid (Lb w1 w.heap.size 28 X (.slice a1 X.trackers.length c1) (.slice a2 X.peers.length c2) (.slice a X.only.length c) (.slice a3 X.xn c3)) := (hb1.block w.heap.size (by omega)).trans (HA.out.below ((Below.refl _ _).alloc (Nat.le_refl _) _))
      have hB1 : Below w.heap.size w w1 := hba.trans (hb1.mono (by omega))
      have HO1 := Lib.hid ho1
      clear ho1 hb1 hba x0
      go_wp2
      refine ⟨⟨k + 1, by omega, by go_num, hB1, hA1, ?_⟩, by simp [intOf]; omega⟩
      have := HO1.out
      have e : (X.info.take (k + 1)).length = k + 1 := by simp; omega
      refine Lib.hid ?_
      rw [e, ltake_snoc X.info k (by omega), byteCells_app]
      exact this
    · obtain rfl : k = 32 := by omega
      have ho := HO.out
      rw [List.take_of_length_le (by omega)] at ho
      obtain ⟨g, cap, rfl, hgc, hgm, hgl, hcells⟩ := own_cells ho (fun h => by rw [h] at hil; cases hil)
      have HCL := Lib.hid hcells
      have c32 := HA.out.cell 32
      rw [lcells_32 HI.out] at c32
      have hl20 : X.info.length ≤ 1048576 := by omega
      clear ho hcells hil
      go_wp2_with fail
      refine (rhexL X.info g 0 cap _ HCL.out hgl hl20 hgc hgm).mono ?_
      rintro e w1 ⟨rfl, hb1⟩
      have hB1 : Below w.heap.size w w1 := hB.trans (hb1.mono hw0)
      have HA1 := Lib.hid (HA.out.below hb1)
      clear c32 hb1 hgl hgc hgm HCL
      have c32 := HA1.out.cell 32
      rw [lcells_32 HI.out] at c32
      have hlh : (hxL X.info).length = 64 := by rw [hxL_len, HI.out]
      go_upto_if 27 with (fail)
      have HB1 := Lib.hid hB1
      go_cut [5] (fun v5 wx => ∃ s : ByteArray, v5 = .string s ∧ Hid (s.data.toList = nameL X) ∧ Below w.heap.size w wx ∧ Hid (Lb wx w.heap.size 28 X (.slice a1 X.trackers.length c1) (.slice a2 X.peers.length c2) (.slice a X.only.length c) (.slice a3 X.xn c3)))
      case first =>
        have hns := HX.out.name
        have hnd : X.name.data.toList.length = X.name.size := by simp
        have hel := escL_len X.name.data.toList
        go_wp2_with fail
        · have hb : (!X.name.toList.isEmpty) = true := by assumption
          have hn : ¬ X.name = ⟨#[]⟩ := fun h => by rw [isEmpty_str, decide_eq_true h] at hb; cases hb
          have HN := Lib.hid hn
          clear hn hb
          refine (rescape X.name _ (by omega)).mono ?_
          rintro e w2 ⟨rfl, hb2⟩
          have HA2 := Lib.hid (HA1.out.below hb2)
          have HB2 := Lib.hid (HB1.out.trans (hb2.mono HB1.out.size))
          clear hb2
          go_wp2_with fail
          go_meet
          exact ⟨_, rfl, by simp [nameL, baseL, HN.out, Hid], HB2.out, HA2⟩
        · have hb : (!X.name.toList.isEmpty) = false := by assumption
          have hn : X.name = ⟨#[]⟩ := by
            rw [isEmpty_str] at hb
            simpa using hb
          go_meet
          exact ⟨_, rfl, by simp [nameL, baseL, hn, Hid], HB1.out, HA1⟩
      case rest =>
        obtain ⟨s0, rfl, hs0, hB0, HA0⟩ := hcut
        clear c32 hlh
        go_wp2_with fail
        go_loopw [5, 6] (fun v5 v6 wr => ∃ (k : Nat) (s : ByteArray), k ≤ X.only.length ∧ v6 = .int .i64 k ∧ v5 = .string s ∧ Hid (s.data.toList = nameL X ++ soK X.only k) ∧ Below w.heap.size w wr ∧ Hid (Lb wr w.heap.size 28 X (.slice a1 X.trackers.length c1) (.slice a2 X.peers.length c2) (.slice a X.only.length c) (.slice a3 X.xn c3))) (fun _ v6 _ => X.only.length - (intOf v6).toNat)
        case atStart => exact ⟨0, s0, Nat.zero_le _, rfl, rfl, by rw [soK, List.append_nil]; exact hs0, hB0, HA0⟩
        case round =>
          obtain ⟨k, s, hk, rfl, rfl, hs, hB, HA⟩ := hrel
          have hwr := hB.size
          have c35 := HA.out.cell 35
          rw [lcells_35 HI.out] at c35
          have hk0 : (0 : Int) ≤ (k : Int) := by omega
          by_cases hlt : k < X.only.length
          · rcases HOO.out with h0 | ⟨B, o, rfl, ha⟩
            · omega
            · have hcl := (ha k X.only[k] (by simp [hlt])).1.keep (Keeps.of_below hB)
              have x0 := hcl.cell 0 rfl
              have x1 := hcl.cell 1 rfl
              simp only [Nat.add_zero] at x0 x1
              have hk1 : (k : Int) < (X.only.length : Int) := by omega
              have hsl : s.size = (nameL X ++ soK X.only k).length := by rw [← hs.out]; simp
              have hsz : s.size ≤ 1099511627776 := by
                have h1 := nameL_len X HI.out HX.out.name
                have h2 := soK_len X.only HWH.out k hk
                rw [hsl]; simp; omega
              obtain ⟨p, hp⟩ : ∃ p, X.only[k].1 = p := ⟨_, rfl⟩
              obtain ⟨q, hq⟩ : ∃ q, X.only[k].2 = q := ⟨_, rfl⟩
              have hwk := HWH.out k hlt
              rw [hp, hq] at hwk
              obtain ⟨g1, g2, g3, g4⟩ := hwk
              rw [hp] at x0
              rw [hq] at x1
              have hnr : Hid (X.only.getD k (0, 0) = (p, q)) := by
                refine Lib.hid ?_
                rw [← hp, ← hq]
                simp [List.getD, List.getElem?_eq_getElem hlt]
              have hi1 := Lib.itoa_length_le p (by omega) (by omega)
              have hi2 := Lib.itoa_length_le (p + q - 1) (by omega) (by omega)
              clear ha hcl hp hq hsl
              by_cases hkz : k = 0
              · subst hkz
                simp only [Nat.zero_mul, Nat.add_zero] at x0 x1
                by_cases hbig : 1 < q
                · have hpt1 : PT (wr.alloc (.cells #[.int .i64 p, .int .i64 q] 64)) := HPT.out.keep (hB.alloc hwr _)
                  go_wp2_with fail
                  refine (itoaC p (by omega) (by omega) _ hpt1).mono ?_
                  rintro e w1 ⟨rfl, hb1⟩
                  have hr0 : w1.cell? ⟨wr.heap.size, 0, none⟩ = some (.int .i64 p) := (hb1.cell (p := ⟨wr.heap.size, 0, none⟩) (by simp)).trans (by simp [World.cell?_alloc_new])
                  have hr1 : w1.cell? ⟨wr.heap.size, 1, none⟩ = some (.int .i64 q) := (hb1.cell (p := ⟨wr.heap.size, 1, none⟩) (by simp)).trans (by simp [World.cell?_alloc_new])
                  have hb1' : Below wr.heap.size wr w1 := ((Below.refl _ _).alloc (Nat.le_refl _) _).trans (hb1.mono (by simp))
                  clear hb1 hpt1
                  have hpt2 : PT w1 := HPT.out.keep (hB.trans (hb1'.mono hwr))
                  go_wp2_with fail
                  refine (itoaC (p + q - 1) (by omega) (by omega) _ hpt2).mono ?_
                  rintro e w2 ⟨rfl, hb2⟩
                  have hb2' : Below wr.heap.size wr w2 := hb1'.trans (hb2.mono hb1'.size)
                  clear hb2 hpt2 hr0 hr1
                  go_wp2
                  exact ⟨⟨0 + 1, _, by omega, by go_num, rfl, by rw [soK, hnr.out]; simp [numR, hs.out, hbig, Hid], hB.trans (hb2'.mono hwr), HA.out.below hb2'⟩, by simp [intOf]; omega⟩
                · have hpt1 : PT (wr.alloc (.cells #[.int .i64 p, .int .i64 q] 64)) := HPT.out.keep (hB.alloc hwr _)
                  go_wp2_with fail
                  refine (itoaC p (by omega) (by omega) _ hpt1).mono ?_
                  rintro e w1 ⟨rfl, hb1⟩
                  have hr0 : w1.cell? ⟨wr.heap.size, 0, none⟩ = some (.int .i64 p) := (hb1.cell (p := ⟨wr.heap.size, 0, none⟩) (by simp)).trans (by simp [World.cell?_alloc_new])
                  have hr1 : w1.cell? ⟨wr.heap.size, 1, none⟩ = some (.int .i64 q) := (hb1.cell (p := ⟨wr.heap.size, 1, none⟩) (by simp)).trans (by simp [World.cell?_alloc_new])
                  have hb1' : Below wr.heap.size wr w1 := ((Below.refl _ _).alloc (Nat.le_refl _) _).trans (hb1.mono (by simp))
                  clear hb1 hpt1
                  go_wp2
                  exact ⟨⟨0 + 1, _, by omega, by go_num, rfl, by rw [soK, hnr.out]; simp [numR, hs.out, hbig, Hid], hB.trans (hb1'.mono hwr), HA.out.below hb1'⟩, by simp [intOf]; omega⟩
              · have hkb : ((k : Int) == 0) = false := by simp; omega
                by_cases hbig : 1 < q
                · have hpt1 : PT (wr.alloc (.cells #[.int .i64 p, .int .i64 q] 64)) := HPT.out.keep (hB.alloc hwr _)
                  go_wp2_with fail
                  refine (itoaC p (by omega) (by omega) _ hpt1).mono ?_
                  rintro e w1 ⟨rfl, hb1⟩
                  have hr0 : w1.cell? ⟨wr.heap.size, 0, none⟩ = some (.int .i64 p) := (hb1.cell (p := ⟨wr.heap.size, 0, none⟩) (by simp)).trans (by simp [World.cell?_alloc_new])
                  have hr1 : w1.cell? ⟨wr.heap.size, 1, none⟩ = some (.int .i64 q) := (hb1.cell (p := ⟨wr.heap.size, 1, none⟩) (by simp)).trans (by simp [World.cell?_alloc_new])
                  have hb1' : Below wr.heap.size wr w1 := ((Below.refl _ _).alloc (Nat.le_refl _) _).trans (hb1.mono (by simp))
                  clear hb1 hpt1
                  have hpt2 : PT w1 := HPT.out.keep (hB.trans (hb1'.mono hwr))
                  go_wp2_with fail
                  refine (itoaC (p + q - 1) (by omega) (by omega) _ hpt2).mono ?_
                  rintro e w2 ⟨rfl, hb2⟩
                  have hb2' : Below wr.heap.size wr w2 := hb1'.trans (hb2.mono hb1'.size)
                  clear hb2 hpt2 hr0 hr1
                  go_wp2
                  exact ⟨⟨k + 1, _, by omega, by go_num, rfl, by rw [soK, hnr.out]; simp [numR, hs.out, hbig, Hid, hkz], hB.trans (hb2'.mono hwr), HA.out.below hb2'⟩, by simp [intOf]; omega⟩
                · have hpt1 : PT (wr.alloc (.cells #[.int .i64 p, .int .i64 q] 64)) := HPT.out.keep (hB.alloc hwr _)
                  go_wp2_with fail
                  refine (itoaC p (by omega) (by omega) _ hpt1).mono ?_
                  rintro e w1 ⟨rfl, hb1⟩
                  have hr0 : w1.cell? ⟨wr.heap.size, 0, none⟩ = some (.int .i64 p) := (hb1.cell (p := ⟨wr.heap.size, 0, none⟩) (by simp)).trans (by simp [World.cell?_alloc_new])
                  have hr1 : w1.cell? ⟨wr.heap.size, 1, none⟩ = some (.int .i64 q) := (hb1.cell (p := ⟨wr.heap.size, 1, none⟩) (by simp)).trans (by simp [World.cell?_alloc_new])
                  have hb1' : Below wr.heap.size wr w1 := ((Below.refl _ _).alloc (Nat.le_refl _) _).trans (hb1.mono (by simp))
                  clear hb1 hpt1
                  go_wp2
                  exact ⟨⟨k + 1, _, by omega, by go_num, rfl, by rw [soK, hnr.out]; simp [numR, hs.out, hbig, Hid, hkz], hB.trans (hb1'.mono hwr), HA.out.below hb1'⟩, by simp [intOf]; omega⟩
          · obtain rfl : k = X.only.length := by omega
            have hsdA : Hid (s.data.toList = soL X) := hs
            have hB0A := hB
            have HA0A := HA
            go_wp2_with fail
            go_loopw [5, 8] (fun v5 v6 wr => ∃ (k : Nat) (s : ByteArray), k ≤ X.trackers.length ∧ v6 = .int .i64 k ∧ v5 = .string s ∧ Hid (s.data.toList = soL X ++ trK X.trackers k) ∧ Below w.heap.size w wr ∧ Hid (Lb wr w.heap.size 28 X (.slice a1 X.trackers.length c1) (.slice a2 X.peers.length c2) (.slice a X.only.length c) (.slice a3 X.xn c3))) (fun _ v6 _ => X.trackers.length - (intOf v6).toNat)
            case atStart => exact ⟨0, s, Nat.zero_le _, rfl, rfl, by simpa [trK, Hid] using hsdA.out, hB0A, HA0A⟩
            case round =>
              obtain ⟨k, s, hk, rfl, rfl, hs, hB, HA⟩ := hrel
              have hwr := hB.size
              have c33 := HA.out.cell 33
              rw [lcells_33 HI.out] at c33
              have hk0 : (0 : Int) ≤ (k : Int) := by omega
              by_cases hlt : k < X.trackers.length
              · obtain ⟨B, o, rfl, hcc⟩ := HS1.out k X.trackers[k] (by simp [hlt])
                have hBl : B < w.heap.size := World.block_lt_of_cell? w _ hcc
                have x0 : wr.cell? ⟨B, o + k, none⟩ = some (.string X.trackers[k]) := (hB.cell (p := ⟨B, o + k, none⟩) hBl).trans hcc
                have hk1 : (k : Int) < (X.trackers.length : Int) := by omega
                have hsl : s.size = (soL X ++ trK X.trackers k).length := by rw [← hs.out]; simp
                have hsz : s.size ≤ 1099511627776 * 8 := by
                  have h1 := soL_len X HI.out HX.out.name HWH.out hn20
                  have h2 := trK_len X.trackers HM1.out k hk
                  rw [hsl, List.length_append]; omega
                have hes := HM1.out k X.trackers[k] (by simp [hlt])
                have hel := escL_len X.trackers[k].data.toList
                have hnd : X.trackers[k].data.toList.length = X.trackers[k].size := by simp
                clear hcc hBl hsl
                go_wp2_with fail
                refine (rescape X.trackers[k] _ (by omega)).mono ?_
                rintro e w1 ⟨rfl, hb1⟩
                go_wp2
                exact ⟨⟨k + 1, _, by omega, by go_num, rfl, by rw [trK_succ _ k hlt]; simp [hs.out, Hid], hB.trans (hb1.mono hwr), HA.out.below hb1⟩, by simp [intOf]; omega⟩
              · obtain rfl : k = X.trackers.length := by omega
                have hsdB : Hid (s.data.toList = trL X) := hs
                have hB0B := hB
                have HA0B := HA
                go_wp2_with fail
                go_loopw [5, 9] (fun v5 v6 wr => ∃ (k : Nat) (s : ByteArray), k ≤ X.peers.length ∧ v6 = .int .i64 k ∧ v5 = .string s ∧ Hid (s.data.toList = trL X ++ peK X.peers k) ∧ Below w.heap.size w wr ∧ Hid (Lb wr w.heap.size 28 X (.slice a1 X.trackers.length c1) (.slice a2 X.peers.length c2) (.slice a X.only.length c) (.slice a3 X.xn c3))) (fun _ v6 _ => X.peers.length - (intOf v6).toNat)
                case atStart => exact ⟨0, s, Nat.zero_le _, rfl, rfl, by simpa [peK, Hid] using hsdB.out, hB0B, HA0B⟩
                case round =>
                  obtain ⟨k, s, hk, rfl, rfl, hs, hB, HA⟩ := hrel
                  have hwr := hB.size
                  have c34 := HA.out.cell 34
                  rw [lcells_34 HI.out] at c34
                  have hk0 : (0 : Int) ≤ (k : Int) := by omega
                  by_cases hlt : k < X.peers.length
                  · obtain ⟨B, o, rfl, hcc⟩ := HS2.out k X.peers[k] (by simp [hlt])
                    have hBl : B < w.heap.size := World.block_lt_of_cell? w _ hcc
                    have x0 : wr.cell? ⟨B, o + k, none⟩ = some (.string X.peers[k]) := (hB.cell (p := ⟨B, o + k, none⟩) hBl).trans hcc
                    have hk1 : (k : Int) < (X.peers.length : Int) := by omega
                    have hsl : s.size = (trL X ++ peK X.peers k).length := by rw [← hs.out]; simp
                    have hsz : s.size ≤ 1099511627776 * 8 := by
                      have h1 := trL_len X HI.out HX.out.name HWH.out hn20 h201 HM1.out
                      have h2 := peK_len X.peers HM2.out k hk
                      rw [hsl, List.length_append]; omega
                    have hes := HM2.out k X.peers[k] (by simp [hlt])
                    have hel := escL_len X.peers[k].data.toList
                    have hnd : X.peers[k].data.toList.length = X.peers[k].size := by simp
                    clear hcc hBl hsl
                    go_wp2_with fail
                    refine (rescape X.peers[k] _ (by omega)).mono ?_
                    rintro e w1 ⟨rfl, hb1⟩
                    go_wp2
                    exact ⟨⟨k + 1, _, by omega, by go_num, rfl, by rw [peK_succ _ k hlt]; simp [hs.out, Hid], hB.trans (hb1.mono hwr), HA.out.below hb1⟩, by simp [intOf]; omega⟩
                  · obtain rfl : k = X.peers.length := by omega
                    have hsdC : Hid (s.data.toList = peL X) := hs
                    have hB0C := hB
                    have HA0C := HA
                    go_wp2_with fail
                    go_loopw [5, 10] (fun v5 v6 wr => ∃ (k : Nat) (s : ByteArray), k ≤ X.xn ∧ v6 = .int .i64 k ∧ v5 = .string s ∧ Hid (s.data.toList = peL X ++ prK X k) ∧ Below w.heap.size w wr ∧ Hid (Lb wr w.heap.size 28 X (.slice a1 X.trackers.length c1) (.slice a2 X.peers.length c2) (.slice a X.only.length c) (.slice a3 X.xn c3))) (fun _ v6 _ => X.xn - (intOf v6).toNat)
                    case atStart => exact ⟨0, s, Nat.zero_le _, rfl, rfl, by simpa [prK, Hid] using hsdC.out, hB0C, HA0C⟩
                    case round =>
                      obtain ⟨k, s, hk, rfl, rfl, hs, hB, HA⟩ := hrel
                      have hwr := hB.size
                      have c36 := HA.out.cell 36
                      rw [lcells_36 HI.out] at c36
                      have hk0 : (0 : Int) ≤ (k : Int) := by omega
                      by_cases hlt : k < X.xn
                      · rcases HPP.out with h0 | ⟨B, o, rfl, ha⟩
                        · omega
                        · obtain ⟨cs, hcell, hksz, hrv⟩ := ha k hlt
                          replace hcell := hcell.keep (Keeps.of_below hB)
                          have htx : ∃ x0 x1 x3 x4, cs = [x0, x1, .string (textV (X.xv k)), x3, x4] ∧ (textV (X.xv k)).size ≤ 1048576 := by
                            cases hx : X.xv k with
                            | leaf => rw [hx] at hrv; exact (hrv : False).elim
                            | mk kd i t n l m dk dv =>
                              rw [hx] at hrv
                              obtain ⟨lv, xv, rfl, hts, _⟩ := hrv
                              exact ⟨_, _, _, _, rfl, hts⟩
                          obtain ⟨z0, z1, z3, z4, rfl, htsz⟩ := htx
                          have x0 := hcell.cell 0 rfl
                          have x3 := hcell.cell 3 rfl
                          simp only [Nat.add_zero] at x0
                          have x3' : wr.cell? ⟨B, o + k * 6 + 1 + 2, none⟩ = some (.string (textV (X.xv k))) := x3
                          have hk1 : (k : Int) < (X.xn : Int) := by omega
                          have hsl : s.size = (peL X ++ prK X k).length := by rw [← hs.out]; simp
                          have hsz : s.size ≤ 17592186044416 := by
                            have h1 := peL_len X HI.out HX.out.name HWH.out hn20 h201 h202 HM1.out HM2.out
                            have h2 := prK_len X HMP.out k hk
                            rw [hsl, List.length_append]; omega
                          have hel := escL_len (X.xk k).data.toList
                          have hnd : (X.xk k).data.toList.length = (X.xk k).size := by simp
                          have hel2 := escL_len (textV (X.xv k)).data.toList
                          have hnd2 : (textV (X.xv k)).data.toList.length = (textV (X.xv k)).size := by simp
                          have hcat1 : ¬ 9223372036854775807 < s.size + 1 := by omega
                          have hcat2 : ¬ 9223372036854775807 < s.size + 1 + (escL (X.xk k).data.toList).length := by omega
                          have hcat3 : ¬ 9223372036854775807 < s.size + 1 + (escL (X.xk k).data.toList).length + 1 := by omega
                          have hcat4 : ¬ 9223372036854775807 < s.size + 1 + (escL (X.xk k).data.toList).length + 1 + (escL (textV (X.xv k)).data.toList).length := by omega
                          have hBl : B < wr.drew.heap.size := World.block_lt_of_cell? wr _ x0
                          have hwlt : w.heap.size < wr.drew.heap.size := HA.out.lt
                          have HKK : Hid (∀ w1 : World, Below wr.drew.heap.size wr.drew w1 → w1.cell? ⟨w.heap.size, 36, none⟩ = some (.slice (some ⟨B, o, none⟩) X.xn c3) ∧ w1.cell? ⟨B, o + k * 6, none⟩ = some (.string (X.xk k)) ∧ w1.cell? ⟨B, o + k * 6 + 1 + 2, none⟩ = some (.string (textV (X.xv k)))) := fun w1 h =>
                            ⟨(h.cell (p := ⟨w.heap.size, 36, none⟩) hwlt).trans c36, (h.cell (p := ⟨B, o + k * 6, none⟩) hBl).trans x0, (h.cell (p := ⟨B, o + k * 6 + 1 + 2, none⟩) hBl).trans x3'⟩
                          clear ha hcell hrv hsl hBl hwlt
                          go_wp2_with fail
                          go_region_held3 (fun w' => w'.cell? ⟨w.heap.size, 36, none⟩ = some (.slice (some ⟨B, o, none⟩) X.xn c3) ∧ w'.cell? ⟨B, o + k * 6, none⟩ = some (.string (X.xk k)) ∧ w'.cell? ⟨B, o + k * 6 + 1 + 2, none⟩ = some (.string (textV (X.xv k))))
                            (first | go_keep | (with_reducible exact HKK.out _ hb1) | (with_reducible exact HKK.out _ hb2))
                            (first
                              | (go_at_call 60; (with_reducible refine (rescape (X.xk k) wr.drew (Nat.le_trans hksz (by decide))).mono ?_); rintro e w1 ⟨rfl, hb1⟩)
                              | (go_at_call 60; (with_reducible refine (rescape (textV (X.xv k)) w1 (Nat.le_trans htsz (by decide))).mono ?_); rintro e w2 ⟨rfl, hb2'⟩; have hb2 := hb1.trans (hb2'.mono hb1.size)))
                          go_wp2
                          have hbb := below_of_drew hb2
                          exact ⟨⟨k + 1, _, by omega, by go_num, rfl, by rw [prK_succ]; simp [hs.out, Hid], hB.trans (hbb.mono hwr), HA.out.below hbb⟩, by simp [intOf]; omega⟩
                      · obtain rfl : k = X.xn := by omega
                        have hst : s = ⟨(textL X).toArray⟩ := by
                          have := hs.out
                          cases s
                          simp only [textL, ← this]
                        go_wp2
                        go_ret
                        exact ⟨by rw [← hst]; rfl, hB⟩

end Go.Proofs.YtdfiblaboddbjaaDoor.Has
