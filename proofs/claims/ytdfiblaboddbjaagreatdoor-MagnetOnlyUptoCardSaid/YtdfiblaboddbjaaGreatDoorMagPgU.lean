/-
  The program's Unhex.
-/
import Derived.Test.YtdfiblaboddbjaaGreatDoorMagPrsF
import Derived.BigQuiet
namespace Go.Proofs.YtdfiblaboddbjaaGreatDoor.Prs
open Go.RowKit Go.Proofs.YtdfiblaboddbjaaGreatDoor.Base Go.Proofs.YtdfiblaboddbjaaGreatDoor.Rep Go.Proofs.YtdfiblaboddbjaaGreatDoor.Mag Go.Proofs.YtdfiblaboddbjaaGreatDoor.Has
set_option linter.unusedVariables false
set_option linter.unusedSimpArgs false

def halfV (c : UInt8) : Int := if lowV c = 16 then -1 else (lowV c : Int)
theorem lowV_eq (c : UInt8) : lowV c = if 48 ≤ c.toNat ∧ c.toNat ≤ 57 then c.toNat - 48 else if 97 ≤ c.toNat ∧ c.toNat ≤ 102 then c.toNat - 87 else 16 := by
  have : ∀ c : Fin 256, lowV (UInt8.ofNat c.1) = if 48 ≤ c.1 ∧ c.1 ≤ 57 then c.1 - 48 else if 97 ≤ c.1 ∧ c.1 ≤ 102 then c.1 - 87 else 16 := by decide +kernel
  have h := this ⟨c.toNat, UInt8.toNat_lt c⟩
  simpa using h

set_option maxRecDepth 100000 in
theorem half (c : UInt8) (w : World) :
    Calls Tryz.prog 76 #[.int .u8 (c.toNat : Int)] w fun e w' => e = .returned (.int .i64 (halfV c)) ∧ w' = w := by
  have hc := UInt8.toNat_lt c
  have hl := lowV_eq c
  obtain ⟨n, hn⟩ : ∃ n, c.toNat = n := ⟨_, rfl⟩
  rw [hn] at hl hc
  rw [hn]
  have HC := Lib.hid hn
  clear hn
  by_cases h1 : 48 ≤ n ∧ n ≤ 57
  · have hv : Hid (halfV c = (n : Int) - 48) := by
      unfold halfV; rw [hl, if_pos h1, if_neg (by omega)]; show ((n - 48 : Nat) : Int) = _; omega
    have a1 : (48 : Int) ≤ (n : Int) := by omega
    have a2 : (n : Int) ≤ 57 := by omega
    clear hl h1
    go_enter Tryz.func76, Tryz.ntmps76
    go_wp2
    go_ret
    exact ⟨by rw [hv.out]; rfl, rfl⟩
  · by_cases h2 : 97 ≤ n ∧ n ≤ 102
    · have hv : Hid (halfV c = (n : Int) - 97 + 10) := by
        unfold halfV; rw [hl, if_neg h1, if_pos h2, if_neg (by omega)]; show ((n - 87 : Nat) : Int) = _; omega
      have a1 : (48 : Int) ≤ (n : Int) := by omega
      have a2 : ¬ (n : Int) ≤ 57 := by omega
      have a3 : (97 : Int) ≤ (n : Int) := by omega
      have a4 : (n : Int) ≤ 102 := by omega
      clear hl h1 h2
      go_enter Tryz.func76, Tryz.ntmps76
      go_wp2
      go_ret
      exact ⟨by rw [hv.out]; rfl, rfl⟩
    · have hv : Hid (halfV c = -1) := by
        unfold halfV; rw [hl, if_neg h1, if_neg h2, if_pos rfl]; rfl
      clear hl
      rcases (by omega : n < 48 ∨ (57 < n ∧ n < 97) ∨ 102 < n) with h | ⟨h, h'⟩ | h
      · have a1 : ¬ (48 : Int) ≤ (n : Int) := by omega
        have a3 : ¬ (97 : Int) ≤ (n : Int) := by omega
        clear h1 h2
        go_enter Tryz.func76, Tryz.ntmps76
        go_wp2
        go_ret
        exact ⟨by rw [hv.out]; rfl, rfl⟩
      · have a1 : (48 : Int) ≤ (n : Int) := by omega
        have a2 : ¬ (n : Int) ≤ 57 := by omega
        have a3 : ¬ (97 : Int) ≤ (n : Int) := by omega
        clear h1 h2
        go_enter Tryz.func76, Tryz.ntmps76
        go_wp2
        go_ret
        exact ⟨by rw [hv.out]; rfl, rfl⟩
      · have a1 : (48 : Int) ≤ (n : Int) := by omega
        have a2 : ¬ (n : Int) ≤ 57 := by omega
        have a3 : (97 : Int) ≤ (n : Int) := by omega
        have a4 : ¬ (n : Int) ≤ 102 := by omega
        clear h1 h2
        go_enter Tryz.func76, Tryz.ntmps76
        go_wp2
        go_ret
        exact ⟨by rw [hv.out]; rfl, rfl⟩

theorem pa_two : ∀ (l : List UInt8) (a b : UInt8), l.length % 2 = 0 → pa (l ++ [a, b]) = pa l ++ [UInt8.ofNat (16 * lowV a + lowV b)]
  | [], a, b, _ => by simp [pa]
  | [_], a, b, h => by simp at h
  | x :: y :: r, a, b, h => by
    have := pa_two r a b (by simp at h; omega)
    simp [pa, this]
theorem halfS (s : ByteArray) (k : Nat) (h : k < s.size) (w : World) :
    Calls Tryz.prog 76 #[.int .u8 (s[k].toNat : Int)] w fun e w' => e = .returned (.int .i64 (halfV s[k])) ∧ w' = w := half s[k] w

set_option maxHeartbeats 4000000 in
set_option maxRecDepth 100000 in
theorem unhex (s : ByteArray) (w : World) (hs : s.size ≤ 1048576) :
    Calls Tryz.prog 66 #[.string s] w fun e w' => (∃ v, e = .returned (.tuple #[v, .int .i64 (hexE (unhexL s.data.toList))]) ∧ ((unhexL s.data.toList = none → v = .slice none 0 0) ∧ ∀ l, unhexL s.data.toList = some l → w'.ownsRow w.heap.size 5 1 v l.length (Lib.byteCells l))) ∧ Below w.heap.size w w' := by
  have hsl : s.data.toList.length = s.size := by simp
  go_enter Tryz.func66, Tryz.ntmps66
  by_cases hev : s.size % 2 = 1
  · have HBAD : Hid (unhexL s.data.toList = none) := unhex_bad _ (Or.inr (by omega))
    have hr1 : (s.size : Int).tmod 2 = 1 := by rw [Int.tmod_eq_emod_of_nonneg (by omega)]; omega
    have hr2 : (s.size : Int) % 2 = 1 := by omega
    go_wp2
    go_ret2
    exact ⟨⟨_, by rw [HBAD.out]; rfl, fun _ => rfl, fun r hr => by rw [HBAD.out] at hr; cases hr⟩, Below.refl _ _⟩
  have hr1 : (s.size : Int).tmod 2 = 0 := by rw [Int.tmod_eq_emod_of_nonneg (by omega)]; omega
  have hr2 : (s.size : Int) % 2 = 0 := by omega
  go_wp2
  go_loopw [4, 5] (fun v4 v5 wr => ∃ k : Nat, k ≤ s.size ∧ k % 2 = 0 ∧ v5 = .int .i64 k ∧ Below w.heap.size w wr ∧ Hid (∀ c ∈ s.data.toList.take k, lowV c ≠ 16) ∧ Hid (wr.ownsRow w.heap.size 5 1 v4 (pa (s.data.toList.take k)).length (Lib.byteCells (pa (s.data.toList.take k))))) (fun _ v5 _ => s.size - (intOf v5).toNat)
  case atStart => exact ⟨0, Nat.zero_le _, rfl, rfl, Below.refl _ _, fun c hc => by simp at hc, ⟨rfl, Or.inl ⟨rfl, rfl⟩⟩⟩
  case round =>
    obtain ⟨k, hk, hke, rfl, hB, HV, HO⟩ := hrel
    have hwr := hB.size
    have hk0 : (0 : Int) ≤ (k : Int) := by omega
    by_cases hlt : k < s.size
    · have hlt2 : k + 1 < s.size := by omega
      have hk1 : (k : Int) < (s.size : Int) := by omega
      have hk2 : (k : Int) + 1 < (s.size : Int) := by omega
      have hk3 : (0 : Int) ≤ (k : Int) + 1 := by omega
      have hk4 : ((k : Int) + 1).toNat = k + 1 := by omega
      have hk5 : IntKind.i64.wrap ((k : Int) + 1) = (k : Int) + 1 := IntWalk.i64_in _ (by omega)
      have hix1 : ∀ w', (Instr.index 9 (.string s) (.int .i64 (k : Int))).run Tryz.prog w' = .ok (.int .u8 (s[k].toNat : Int)) w' := fun w' => run_index_str Tryz.underlying9 s .i64 k hlt w'
      have hix2 : ∀ w', (Instr.index 9 (.string s) (.int .i64 ((k : Int) + 1))).run Tryz.prog w' = .ok (.int .u8 (s[k + 1].toNat : Int)) w' := fun w' => run_index_str_at Tryz.underlying9 s .i64 _ (k + 1) (by omega) hlt2 w'
      have htk : s.data.toList.take (k + 2) = s.data.toList.take k ++ [s[k], s[k + 1]] := by
        rw [show k + 2 = k + 1 + 1 by omega, take_snoc s (k + 1) hlt2, take_snoc s k hlt, List.append_assoc]; rfl
      have htl : (s.data.toList.take k).length = k := by simp; omega
      have hpt := pa_two (s.data.toList.take k) s[k] s[k + 1] (by omega)
      rw [← htk] at hpt
      have HTK := Lib.hid htk
      have HPT := Lib.hid hpt
      have hva := lowV_lt s[k]
      have hvb := lowV_lt s[k + 1]
      clear htk hpt
      go_wp2_with fail
      go_quiet (first
        | (go_at_call 76; (with_reducible refine Calls.quiet_of_same (halfS s k hlt _)))
        | (go_at_call 76; (with_reducible refine Calls.quiet_of_same (halfS s (k + 1) hlt2 _))))
      by_cases h1 : lowV s[k] = 16
      · have HBAD : Hid (unhexL s.data.toList = none) := unhex_bad _ (Or.inl ⟨s[k], List.mem_of_mem_take (i := k + 2) (by rw [HTK.out]; simp), h1⟩)
        have e1 : halfV s[k] = -1 := by unfold halfV; rw [if_pos h1]
        rw [e1]
        go_wp2
        go_ret2
        exact ⟨⟨_, by rw [HBAD.out]; rfl, fun _ => rfl, fun r hr => by rw [HBAD.out] at hr; cases hr⟩, below_N hB _⟩
      · by_cases h2 : lowV s[k + 1] = 16
        · have HBAD : Hid (unhexL s.data.toList = none) := unhex_bad _ (Or.inl ⟨s[k + 1], List.mem_of_mem_take (i := k + 2) (by rw [HTK.out]; simp), h2⟩)
          have e1 : halfV s[k] = (lowV s[k] : Int) := by unfold halfV; rw [if_neg h1]
          have e2 : halfV s[k + 1] = -1 := by unfold halfV; rw [if_pos h2]
          rw [e1, e2]
          have hn1 : ¬ (lowV s[k] : Int) < 0 := by omega
          go_wp2
          go_ret2
          exact ⟨⟨_, by rw [HBAD.out]; rfl, fun _ => rfl, fun r hr => by rw [HBAD.out] at hr; cases hr⟩, below_N hB _⟩
        · have e1 : halfV s[k] = (lowV s[k] : Int) := by unfold halfV; rw [if_neg h1]
          have e2 : halfV s[k + 1] = (lowV s[k + 1] : Int) := by unfold halfV; rw [if_neg h2]
          have hV2 : Hid (∀ c ∈ s.data.toList.take (k + 2), lowV c ≠ 16) := by
            refine Lib.hid fun c hc => ?_
            rw [HTK.out, List.mem_append] at hc
            rcases hc with hc | hc
            · exact HV.out c hc
            · rcases List.mem_cons.1 hc with rfl | hc
              · exact h1
              · rw [List.mem_singleton.1 hc]; exact h2
          rw [e1, e2]
          obtain ⟨x, hx⟩ : ∃ x, lowV s[k] = x := ⟨_, rfl⟩
          obtain ⟨y, hy⟩ : ∃ y, lowV s[k + 1] = y := ⟨_, rfl⟩
          rw [hx] at hva h1
          rw [hy] at hvb h2
          have HPT2 : Hid (pa (s.data.toList.take (k + 2)) = pa (s.data.toList.take k) ++ [UInt8.ofNat (16 * x + y)]) := by rw [← hx, ← hy]; exact HPT.out
          rw [hx, hy]
          clear hx hy e1 e2
          have hx16 : x < 16 := by omega
          have hy16 : y < 16 := by omega
          have hor := or_hex x y hx16 hy16
          have hn1 : ¬ (x : Int) < 0 := by omega
          have hn2 : ¬ (y : Int) < 0 := by omega
          have hu := u8_add x y hx16 hy16
          have hm1 : (pa (s.data.toList.take k)).length + 1 ≤ maxLen := by rw [pa_len]; unfold maxLen; omega
          have hm2 : ((pa (s.data.toList.take k)).length + 1) * 1 ≤ 140737488355328 := by rw [pa_len]; omega
          have hcv : IntKind.u8.wrap ((x * 16 + y : Nat) : Int) = ((UInt8.ofNat (16 * x + y)).toNat : Int) := by rw [hu, IntWalk.u8_in _ (by omega)]; omega
          obtain ⟨q, hq⟩ : ∃ q, x * 16 + y = q := ⟨_, rfl⟩
          rw [hq] at hor hcv
          have HQ := Lib.hid hq
          clear hq
          obtain ⟨wq, hwq⟩ : ∃ wq, wr.drewN nq = wq := ⟨_, rfl⟩
          have HOq : Hid (wq.ownsRow w.heap.size 5 1 u4 (pa (s.data.toList.take k)).length (Lib.byteCells (pa (s.data.toList.take k)))) := by rw [← hwq]; exact HO.out
          have hBq : Below w.heap.size w wq := by rw [← hwq]; exact below_N hB _
          have hwrq := hBq.size
          rw [hwq]
          clear hwq
          go_wp2_with (at_builtin; refine wpList_app1 rfl _ _ 41 rfl w.heap.size 5 (.int .u8 0) 1 infoByte rfl Tryz.underlying41 _ _ _ rfl (HOq.out.alloc _) wq.heap.size _ rfl (by simp; rfl) rfl hm1 hm2 (by simp; omega) ?_)
          intro g' cap w2 ho2 hb2 _
          have HO2 := Lib.hid ho2
          have hB2 : Below w.heap.size w w2 := (hBq.alloc hwrq _).trans hb2
          clear ho2 hb2
          go_wp2
          refine ⟨⟨k + 2, by omega, by omega, by go_num, hB2, hV2, Lib.hid ?_⟩, by simp [intOf]; omega⟩
          rw [HPT2.out, bc_app, List.length_append]
          exact HO2.out
    · obtain rfl : k = s.size := by omega
      have HTK : Hid (s.data.toList.take s.size = s.data.toList) := List.take_of_length_le (by omega)
      have HOK : Hid (unhexL s.data.toList = some (pa s.data.toList)) := unhex_ok _ (fun c hc => HV.out c (by rw [HTK.out]; exact hc)) (by omega)
      have HO2 : Hid (wr.ownsRow w.heap.size 5 1 u4 (pa s.data.toList).length (Lib.byteCells (pa s.data.toList))) := by
        have := HO.out
        rw [HTK.out] at this
        exact this
      go_wp2
      go_ret2
      exact ⟨⟨_, by rw [HOK.out]; rfl, (fun h => (by rw [HOK.out] at h; cases h)), fun l hl => by rw [HOK.out] at hl; cases hl; exact HO2.out⟩, hB⟩

end Go.Proofs.YtdfiblaboddbjaaGreatDoor.Prs
