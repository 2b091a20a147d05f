/-
  The document's small functions under Parse.
-/
import Derived.Test.YtdfiblaboddbjaaDoorMagSpec
namespace Go.Proofs.YtdfiblaboddbjaaDoor.Prs
open Go.RowKit Go.Proofs.YtdfiblaboddbjaaDoor.Base Go.Proofs.YtdfiblaboddbjaaDoor.Rep Go.Proofs.YtdfiblaboddbjaaDoor.Mag Go.Proofs.YtdfiblaboddbjaaDoor.Has
set_option linter.unusedVariables false
set_option linter.unusedSimpArgs false

theorem toList_eq (s : ByteArray) : s.toList = s.data.toList := Lib.toList_data s

/-- does s begin with p? -/
def preB (p : List UInt8) (s : ByteArray) : Bool := p.isPrefixOf s.data.toList

theorem prefix_beq (s t : ByteArray) (h : t.size ≤ s.size) : ((s.extract 0 t.size).toList == t.toList) = preB t.data.toList s := by
  unfold preB
  rw [toList_eq, toList_eq]
  have h1 : (s.extract 0 t.size).data.toList = s.data.toList.take t.data.toList.length := by
    simp [ByteArray.data_extract]
  rw [h1]
  rw [Bool.eq_iff_iff]
  simp only [beq_iff_eq, List.isPrefixOf_iff_prefix]
  constructor
  · intro e; rw [← e]; exact List.take_prefix _ _
  · intro e; exact (List.prefix_iff_eq_take.1 e).symm

set_option maxRecDepth 100000 in
theorem rstarts (s t : ByteArray) (w : World) :
    Calls Tryd.prog 42 #[.string s, .string t] w fun e w' => e = .returned (.bool (preB t.data.toList s)) ∧ w' = w := by
  by_cases h : t.size ≤ s.size
  · have hp := prefix_beq s t h
    have h1 : (t.size : Int) ≤ (s.size : Int) := by omega
    go_enter Tryd.func42, Tryd.ntmps42
    go_wp2
    go_ret
    exact ⟨by first | rfl | (rw [← hp]; rfl), rfl⟩
  · have hp : preB t.data.toList s = false := by
      unfold preB
      rw [Bool.eq_false_iff]
      intro e
      have := (List.isPrefixOf_iff_prefix.1 e).length_le
      simp at this
      omega
    have h1 : ¬ (t.size : Int) ≤ (s.size : Int) := by omega
    go_enter Tryd.func42, Tryd.ntmps42
    go_wp2
    go_ret
    exact ⟨by first | rfl | (rw [hp]; rfl), rfl⟩

theorem low_get : ∀ k : Fin 16, (⟨#[48, 49, 50, 51, 52, 53, 54, 55, 56, 57, 97, 98, 99, 100, 101, 102]⟩ : ByteArray)[k.1]'k.2 = lowL[k.1]'k.2 := by decide +kernel
theorem lowV_lt (c : UInt8) : lowV c ≤ 16 := by
  have : ∀ c : Fin 256, lowV (UInt8.ofNat c.1) ≤ 16 := by decide +kernel
  have h := this ⟨c.toNat, UInt8.toNat_lt c⟩
  simpa using h

set_option maxHeartbeats 1000000 in
set_option maxRecDepth 100000 in
theorem rvalue (c : UInt8) (w : World) :
    Calls Tryd.prog 96 #[.int .u8 (c.toNat : Int)] w fun e w' => e = .returned (.int .i64 (lowV c)) ∧ w' = w := by
  go_enter Tryd.func96, Tryd.ntmps96
  go_wp2
  go_loop [3] (fun v5 => ∃ k : Nat, k ≤ 16 ∧ v5 = .int .i64 k ∧ Hid (∀ j (hj : j < k) (hj' : j < lowL.length), (lowL[j]).toNat ≠ c.toNat)) (fun v5 => 16 - (intOf v5).toNat)
  case atStart => exact ⟨0, Nat.zero_le _, rfl, fun j hj => by omega⟩
  case round =>
    obtain ⟨k, hk, rfl, HN⟩ := hrel
    have hll : lowL.length = 16 := rfl
    by_cases hlt : k < 16
    · have hx := run_index_str (P := Tryd.prog) Tryd.underlying9 ⟨#[48, 49, 50, 51, 52, 53, 54, 55, 56, 57, 97, 98, 99, 100, 101, 102]⟩ .i64 k hlt w
      have hg := low_get ⟨k, hlt⟩
      simp only at hg
      rw [hg] at hx
      have hk1 : (k : Int) < 16 := by omega
      by_cases hc : (lowL[k]'(by omega)).toNat = c.toNat
      · have hc' : ((((lowL[k]'(by omega)).toNat : Int)) == (c.toNat : Int)) = true := by simp [hc]
        go_wp2
        go_ret
        have := plc_hit lowL c.toNat k (by omega) hc (fun j hj => HN.out j hj (by omega))
        have hl : lowV c = k := by unfold lowV; rw [this, if_neg (by omega)]; rfl
        exact ⟨by first | rfl | (rw [hl]; rfl), rfl⟩
      · have hc' : ((((lowL[k]'(by omega)).toNat : Int)) == (c.toNat : Int)) = false := by simp; omega
        go_wp2
        exact ⟨⟨k + 1, by omega, by go_num, fun j hj hj' => by
          by_cases e : j = k
          · subst e; exact hc
          · exact HN.out j (by omega) hj'⟩, by simp [intOf]; omega⟩
    · obtain rfl : k = 16 := by omega
      have := plc_miss lowL c.toNat (fun j hj => HN.out j (by omega) hj)
      have hl : lowV c = 16 := by unfold lowV; rw [this]; rfl
      go_wp2
      go_ret
      exact ⟨by first | rfl | (rw [hl]; rfl), rfl⟩

def pa : List UInt8 → List UInt8
  | [] => []
  | [a] => [UInt8.ofNat (16 * lowV a)]
  | a :: b :: r => UInt8.ofNat (16 * lowV a + lowV b) :: pa r

def hexE : Option (List UInt8) → Int
  | some _ => 0
  | none => 13

theorem unhex_ok : ∀ (l : List UInt8), (∀ c ∈ l, lowV c ≠ 16) → l.length % 2 = 0 → unhexL l = some (pa l)
  | [], _, _ => rfl
  | [_], _, h => by simp at h
  | a :: b :: r, h, he => by
    have ha := h a (by simp)
    have hb := h b (by simp)
    have := unhex_ok r (fun c hc => h c (by simp [hc])) (by simp at he; omega)
    simp [unhexL, pa, ha, hb, this]
theorem unhex_bad : ∀ (l : List UInt8), ((∃ c ∈ l, lowV c = 16) ∨ l.length % 2 = 1) → unhexL l = none
  | [], h => by
    rcases h with ⟨c, hc, _⟩ | h
    · cases hc
    · simp at h
  | [_], _ => rfl
  | a :: b :: r, h => by
    by_cases hab : lowV a = 16 ∨ lowV b = 16
    · simp [unhexL, hab]
    · have : unhexL r = none := unhex_bad r (by
        rcases h with ⟨c, hc, h16⟩ | h
        · rcases List.mem_cons.1 hc with rfl | hc
          · exact absurd (Or.inl h16) hab
          · rcases List.mem_cons.1 hc with rfl | hc
            · exact absurd (Or.inr h16) hab
            · exact Or.inl ⟨c, hc, h16⟩
        · right; simp at h; omega)
      simp [unhexL, hab, this]
theorem pa_len : ∀ (l : List UInt8), (pa l).length = (l.length + 1) / 2
  | [] => rfl
  | [_] => by simp [pa]
  | a :: b :: r => by simp [pa, pa_len r]; omega
theorem pa_even : ∀ (l : List UInt8) (c : UInt8), l.length % 2 = 0 → pa (l ++ [c]) = pa l ++ [UInt8.ofNat (16 * lowV c)]
  | [], c, _ => rfl
  | [_], c, h => by simp at h
  | a :: b :: r, c, h => by
    have := pa_even r c (by simp at h; omega)
    simp [pa, this]
theorem pa_odd : ∀ (l : List UInt8) (c : UInt8), l.length % 2 = 1 → ∃ d, d ∈ l ∧ (pa l)[l.length / 2]? = some (UInt8.ofNat (16 * lowV d)) ∧ pa (l ++ [c]) = (pa l).set (l.length / 2) (UInt8.ofNat (16 * lowV d + lowV c))
  | [], c, h => by simp at h
  | [a], c, _ => ⟨a, by simp, by simp [pa], by simp [pa]⟩
  | a :: b :: r, c, h => by
    obtain ⟨d, h1, h2, h3⟩ := pa_odd r c (by simp at h; omega)
    have e : (a :: b :: r).length / 2 = r.length / 2 + 1 := by simp; omega
    refine ⟨d, by simp [h1], ?_, ?_⟩
    · rw [e]; simpa [pa] using h2
    · rw [e]; simp [pa, h3]

theorem bc_app (a b : List UInt8) : Lib.byteCells (a ++ b) = Lib.byteCells a ++ Lib.byteCells b := by simp [Lib.byteCells]
theorem u8_mul : ∀ n : Nat, n < 16 → ((UInt8.ofNat (16 * n)).toNat : Int) = (n : Int) * 16 := fun n h => by
  rw [UInt8.toNat_ofNat_of_lt' (by show 16 * n < 256; omega)]; omega
theorem u8_add (n m : Nat) (h : n < 16) (h' : m < 16) : ((UInt8.ofNat (16 * n + m)).toNat : Int) = (n : Int) * 16 + m := by
  rw [UInt8.toNat_ofNat_of_lt' (by show 16 * n + m < 256; omega)]; omega

set_option maxHeartbeats 1000000 in
set_option maxRecDepth 100000 in
theorem rvalueS (s : ByteArray) (k : Nat) (h : k < s.size) (w : World) :
    Calls Tryd.prog 96 #[.int .u8 (s[k].toNat : Int)] w fun e w' => e = .returned (.int .i64 (lowV s[k])) ∧ w' = w := rvalue s[k] w

set_option maxHeartbeats 2000000 in
set_option maxRecDepth 100000 in
theorem runhex (s : ByteArray) (w : World) (hs : s.size ≤ 1048576) :
    Calls Tryd.prog 85 #[.string s] w fun e w' => (∃ v, e = .returned (.tuple #[v, .int .i64 (hexE (unhexL s.data.toList))]) ∧ ∀ l, unhexL s.data.toList = some l → w'.ownsRow w.heap.size 5 1 v l.length (Lib.byteCells l)) ∧ Below w.heap.size w w' := by
  have hsl : s.data.toList.length = s.size := by simp
  go_enter Tryd.func85, Tryd.ntmps85
  go_wp2
  go_loopw [4, 5] (fun v4 v5 wr => ∃ k : Nat, k ≤ s.size ∧ v5 = .int .i64 k ∧ Below w.heap.size w wr ∧ Hid (∀ c ∈ s.data.toList.take k, lowV c ≠ 16) ∧ Hid (wr.ownsRow w.heap.size 5 1 v4 (pa (s.data.toList.take k)).length (Lib.byteCells (pa (s.data.toList.take k))))) (fun _ v5 _ => s.size - (intOf v5).toNat)
  case atStart => exact ⟨0, Nat.zero_le _, rfl, Below.refl _ _, fun c hc => by simp at hc, ⟨rfl, Or.inl ⟨rfl, rfl⟩⟩⟩
  case round =>
    obtain ⟨k, hk, rfl, hB, HV, HO⟩ := hrel
    have hwr := hB.size
    have hk0 : (0 : Int) ≤ (k : Int) := by omega
    by_cases hlt : k < s.size
    · have hk1 : (k : Int) < (s.size : Int) := by omega
      have hsn := take_snoc s k hlt
      have htl : (s.data.toList.take k).length = k := by simp; omega
      have hv := lowV_lt s[k]
      have HSN := Lib.hid hsn
      clear hsn
      go_wp2_with fail
      refine (rvalueS s k hlt wr).mono ?_
      rintro e w1 ⟨rfl, rfl⟩
      by_cases h16 : lowV s[k] = 16
      · have HBAD : Hid (unhexL s.data.toList = none) := unhex_bad _ (Or.inl ⟨s[k], List.mem_of_mem_take (i := k + 1) (by rw [HSN.out]; simp), h16⟩)
        have hi : ((lowV s[k] : Int) == 16) = true := by simp [h16]
        go_wp2
        go_ret2
        exact ⟨⟨_, by rw [HBAD.out]; rfl, fun l hl => by rw [HBAD.out] at hl; cases hl⟩, hB⟩
      · have hi : ((lowV s[k] : Int) == 16) = false := by simp; omega
        have hv15 : lowV s[k] < 16 := by omega
        have hv2 : Hid (∀ c ∈ s.data.toList.take (k + 1), lowV c ≠ 16) := by
          refine Lib.hid fun c hc => ?_
          rw [HSN.out, List.mem_append] at hc
          rcases hc with hc | hc
          · exact HV.out c hc
          · rw [List.mem_singleton.1 hc]; exact h16
        by_cases hev : k % 2 = 0
        · have hpe := pa_even (s.data.toList.take k) s[k] (by omega)
          rw [← HSN.out] at hpe
          have hm := u8_mul _ hv15
          have hr1 : (k : Int).tmod 2 = 0 := by rw [Int.tmod_eq_emod_of_nonneg (by omega)]; omega
          have hr2 : (k : Int) % 2 = 0 := by omega
          have hm1 : (pa (s.data.toList.take k)).length + 1 ≤ maxLen := by rw [pa_len]; unfold maxLen; omega
          have hm2 : ((pa (s.data.toList.take k)).length + 1) * 1 ≤ 140737488355328 := by rw [pa_len]; omega
          have hc1 : IntKind.u8.wrap (lowV s[k] : Int) = lowV s[k] := by rw [IntWalk.u8_in _ (by omega)]
          have hc2 : IntKind.u8.wrap ((lowV s[k] : Int) * 16) = (lowV s[k] : Int) * 16 := by rw [IntWalk.u8_in _ (by omega)]
          go_wp2_with (at_builtin; refine wpList_app1 rfl _ _ 77 rfl w.heap.size 5 (.int .u8 0) 1 infoByte rfl Tryd.underlying77 _ _ _ rfl (HO.out.alloc _) w1.heap.size _ rfl (by simp; rfl) rfl hm1 hm2 (by simp; omega) ?_)
          intro g' cap w2 ho2 hb2 _
          have HO2 := Lib.hid ho2
          have hB2 : Below w.heap.size w w2 := (hB.alloc hwr _).trans hb2
          clear ho2 hb2
          go_wp2
          refine ⟨⟨k + 1, by omega, by go_num, hB2, hv2, Lib.hid ?_⟩, by simp [intOf]; omega⟩
          rw [hpe, bc_app, List.length_append]
          have := HO2.out
          rw [← hm] at this
          exact this
        · obtain ⟨d, hd1, hd2, hd3⟩ := pa_odd (s.data.toList.take k) s[k] (by omega)
          have hd15 : lowV d < 16 := by have := HV.out d hd1; have := lowV_lt d; omega
          rw [← HSN.out] at hd3
          rw [htl] at hd2 hd3
          have hpn : 0 < (pa (s.data.toList.take k)).length := by rw [pa_len]; omega
          obtain ⟨g, cap, rfl, hBg, hgl⟩ := HO.out.form hpn
          have hr1 : (k : Int).tmod 2 = 1 := by rw [Int.tmod_eq_emod_of_nonneg (by omega)]; omega
          have hr2 : (k : Int) % 2 = 1 := by omega
          obtain ⟨m, hm⟩ : ∃ m, k / 2 = m := ⟨_, rfl⟩
          have hq3 : IntKind.i64.wrap ((k : Int).tdiv 2) = (m : Int) := by rw [Int.tdiv_eq_ediv_of_nonneg (by omega), IntWalk.i64_in _ (by omega)]; omega
          have hq4 : (k : Int).tdiv 2 = (m : Int) := by rw [Int.tdiv_eq_ediv_of_nonneg (by omega)]; omega
          rw [hm] at hd2 hd3
          have hpl2 : m < (pa (s.data.toList.take k)).length := by rw [pa_len]; omega
          have hpl3 : (m : Int) < ((pa (s.data.toList.take k)).length : Int) := by omega
          have hpl4 : (0 : Int) ≤ (m : Int) := by omega
          have hca := HO.out.cellAt (m) (by omega)
          rw [show (Lib.byteCells (pa (s.data.toList.take k)))[m]? = some (.int .u8 ((lowV d : Int) * 16)) by
            rw [← u8_mul _ hd15]; simp [Lib.byteCells, hd2]] at hca
          have hfa := HO.out.frozenAt (m)
          have hst := HO.out.stored (m) (.int .u8 ((lowV d : Int) * 16 + lowV s[k]))
          have hBd : Below w.heap.size w (w1.setCell ⟨g, m, none⟩ (.int .u8 ((lowV d : Int) * 16 + lowV s[k]))) := hB.setCell (p := ⟨g, m, none⟩) hBg _
          have hc1 : IntKind.u8.wrap (lowV s[k] : Int) = lowV s[k] := by rw [IntWalk.u8_in _ (by omega)]
          have hc2 : IntKind.u8.wrap ((lowV d : Int) * 16 + lowV s[k]) = (lowV d : Int) * 16 + lowV s[k] := by rw [IntWalk.u8_in _ (by omega)]
          have HST := Lib.hid hst.1
          have HD3 := Lib.hid hd3
          clear hst hd2 hd3 hpn
          go_wp2
          refine ⟨⟨k + 1, by omega, by go_num, hBd, hv2, Lib.hid ?_⟩, by simp [intOf]; omega⟩
          rw [HD3.out]
          have := HST.out
          rw [List.length_set]
          rw [show Lib.byteCells ((pa (s.data.toList.take k)).set (m) (UInt8.ofNat (16 * lowV d + lowV s[k]))) = (Lib.byteCells (pa (s.data.toList.take k))).set (m) (.int .u8 ((lowV d : Int) * 16 + lowV s[k])) by
            rw [← u8_add _ _ hd15 hv15]; simp [Lib.byteCells, List.map_set]]
          exact this
    · obtain rfl : k = s.size := by omega
      have HTK : Hid (s.data.toList.take s.size = s.data.toList) := List.take_of_length_le (by omega)
      by_cases hev : s.size % 2 = 0
      · have HOK : Hid (unhexL s.data.toList = some (pa s.data.toList)) := unhex_ok _ (fun c hc => HV.out c (by rw [HTK.out]; exact hc)) (by omega)
        have hr1 : (s.size : Int).tmod 2 = 0 := by rw [Int.tmod_eq_emod_of_nonneg (by omega)]; omega
        have hr2 : (s.size : Int) % 2 = 0 := by omega
        have HO2 : Hid (wr.ownsRow w.heap.size 5 1 u4 (pa s.data.toList).length (Lib.byteCells (pa s.data.toList))) := by
          have := HO.out
          rw [HTK.out] at this
          exact this
        go_wp2
        go_ret2
        exact ⟨⟨_, by rw [HOK.out]; rfl, fun l hl => by rw [HOK.out] at hl; cases hl; exact HO2.out⟩, hB⟩
      · have HBAD : Hid (unhexL s.data.toList = none) := unhex_bad _ (Or.inr (by omega))
        have hr1 : (s.size : Int).tmod 2 = 1 := by rw [Int.tmod_eq_emod_of_nonneg (by omega)]; omega
        have hr2 : (s.size : Int) % 2 = 1 := by omega
        go_wp2
        go_ret2
        exact ⟨⟨_, by rw [HBAD.out]; rfl, fun l hl => by rw [HBAD.out] at hl; cases hl⟩, hB⟩

end Go.Proofs.YtdfiblaboddbjaaDoor.Prs
