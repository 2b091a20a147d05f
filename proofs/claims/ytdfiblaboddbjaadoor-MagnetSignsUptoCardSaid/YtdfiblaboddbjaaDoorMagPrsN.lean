/-
  The document's number and runs.
-/
import Derived.Test.YtdfiblaboddbjaaDoorMagPrsF
namespace Go.Proofs.YtdfiblaboddbjaaDoor.Prs
open Go.RowKit Go.Proofs.YtdfiblaboddbjaaDoor.Base Go.Proofs.YtdfiblaboddbjaaDoor.Rep Go.Proofs.YtdfiblaboddbjaaDoor.Mag Go.Proofs.YtdfiblaboddbjaaDoor.Has
set_option linter.unusedVariables false
set_option linter.unusedSimpArgs false

def numA (l : List UInt8) : Int := match numS (digs l) with
  | some n => (n : Int)
  | none => 0
def numK (l : List UInt8) (i : Nat) : Int := match numS (digs l) with
  | some _ => ((i + (digs l).length : Nat) : Int)
  | none => -1

theorem valD_lt : ∀ (n : Nat) (l : List UInt8), l.length = n → l.all isDig = true → valD l < 10 ^ n
  | 0, l, hl, _ => by rw [List.length_eq_zero_iff.1 hl]; simp [valD]
  | n + 1, l, hl, hd => by
    obtain ⟨l', c, rfl⟩ := list_snoc l (by intro e; rw [e] at hl; cases hl)
    rw [List.all_append, Bool.and_eq_true] at hd
    have := valD_lt n l' (by simpa using hl) hd.1
    have hc := (isDig_iff c).1 (by simpa using hd.2)
    rw [valD_snoc, Nat.pow_succ]; omega
theorem valD_ge : ∀ (n : Nat) (l : List UInt8), l.length = n + 1 → l.all isDig = true → l.head? ≠ some 48 → 10 ^ n ≤ valD l
  | 0, l, hl, hd, hh => by have := (decD_val 0 l hl hd hh).1; simpa using this
  | n + 1, l, hl, hd, hh => by
    obtain ⟨l', c, rfl⟩ := list_snoc l (by intro e; rw [e] at hl; cases hl)
    have hl' : l'.length = n + 1 := by simpa using hl
    have hne : l' ≠ [] := by intro e; rw [e] at hl'; cases hl'
    rw [List.all_append, Bool.and_eq_true] at hd
    have hh' : l'.head? ≠ some 48 := by
      intro e; apply hh; rw [List.head?_append, e]; rfl
    have := valD_ge n l' hl' hd.1 hh'
    rw [valD_snoc, Nat.pow_succ]; omega

theorem numS_digs (d : List UInt8) (hd : d.all isDig = true) (h5 : d.length ≤ 5) :
    (d = [] ∨ 4096 ≤ valD d ∨ (d.head? = some 48 ∧ 1 < d.length) → numS d = none) ∧ (¬ (d = [] ∨ 4096 ≤ valD d ∨ (d.head? = some 48 ∧ 1 < d.length)) → numS d = some (valD d)) := by
  constructor
  · intro h
    unfold numS
    rw [if_neg]
    rintro ⟨_, h2, h3, h4, h6⟩
    rcases h with h | h | ⟨h, h'⟩
    · exact h2 h
    · omega
    · have := h4 h; omega
  · intro h
    have h1 : d ≠ [] := fun e => h (Or.inl e)
    have h2 : valD d < 4096 := by
      rcases Nat.lt_or_ge (valD d) 4096 with h' | h'
      · exact h'
      · exact absurd (Or.inr (Or.inl h')) h
    have h3 : d.head? = some 48 → d.length = 1 := fun e => by
      have hp := List.length_pos_iff.2 h1
      rcases Nat.lt_or_ge 1 d.length with h' | h'
      · exact absurd (Or.inr (Or.inr ⟨e, h'⟩)) h
      · omega
    have h4 : d.length ≤ 4 := by
      rcases Nat.lt_or_ge 4 d.length with h' | h'
      · have hl : d.length = 4 + 1 := by omega
        by_cases e : d.head? = some 48
        · have := h3 e; omega
        · have := valD_ge 4 d hl hd e
          omega
      · exact h'
    unfold numS
    rw [if_pos ⟨hd, h1, h4, h3, h2⟩]

theorem digs_eq (l : List UInt8) (j : Nat) (h5 : j ≤ 5) (hj : j ≤ l.length) (ha : (l.take j).all isDig = true) (he : j = 5 ∨ j = l.length ∨ ∃ h : j < l.length, isDig l[j] = false) : digs l = l.take j := by
  unfold digs
  have e1 : l.take 5 = l.take j ++ (l.take 5).drop j := by
    have := (List.take_append_drop j (l.take 5)).symm
    rwa [List.take_take, Nat.min_eq_left h5] at this
  have e2 : ((l.take 5).drop j).takeWhile isDig = [] := by
    rcases he with rfl | rfl | ⟨h, hn⟩
    · simp
    · rw [List.drop_of_length_le (by rw [List.length_take]; omega)]; rfl
    · rcases Nat.lt_or_ge j 5 with h' | h'
      · rw [List.drop_eq_getElem_cons (by simp; omega), List.takeWhile_cons]
        simp [hn]
      · rw [List.drop_of_length_le (by simp; omega)]; rfl
  rw [e1, List.takeWhile_append_of_pos (by simpa [List.all_eq_true] using ha), e2, List.append_nil]

set_option maxHeartbeats 8000000 in
set_option maxRecDepth 100000 in
theorem rnumber (s : ByteArray) (i : Nat) (hi : i ≤ s.size) (hs : s.size ≤ 1048576) (w : World) :
    Calls Tryd.prog 97 #[.string s, .int .i64 (i : Int)] w fun e w' => e = .returned (.tuple #[.int .i64 (numA (s.data.toList.drop i)), .int .i64 (numK (s.data.toList.drop i) i)]) ∧ w' = w := by
  have hsl : (s.data.toList.drop i).length = s.size - i := by simp
  go_enter Tryd.func97, Tryd.ntmps97
  go_wp2
  go_loop [6, 7] (fun v6 v7 => ∃ k n : Nat, i ≤ k ∧ k ≤ i + 5 ∧ k ≤ s.size ∧ v7 = .int .i64 (k : Int) ∧ v6 = .int .i64 (n : Int) ∧ n < 100000 ∧ Hid (((s.data.toList.drop i).take (k - i)).all isDig = true ∧ valD ((s.data.toList.drop i).take (k - i)) = n)) (fun _ v7 => i + 5 - (intOf v7).toNat)
  case atStart => exact ⟨i, 0, by omega, by omega, by omega, rfl, rfl, by omega, by simp [Hid, valD]⟩
  case round =>
    obtain ⟨k, n, hik, hk5, hks, rfl, rfl, hn5, HD⟩ := hrel
    have hk0 : (0 : Int) ≤ (k : Int) := by omega
    have hi0 : (0 : Int) ≤ (i : Int) := by omega
    by_cases hc : k < s.size ∧ k < i + 5 ∧ ∃ h : k < s.size, 48 ≤ s[k].toNat ∧ s[k].toNat ≤ 57
    · obtain ⟨hlt, hki, _, h48, h57⟩ := hc
      have hk1 : (k : Int) < (s.size : Int) := by omega
      have h48' : (48 : Int) ≤ (s[k].toNat : Int) := by omega
      have h57' : (s[k].toNat : Int) ≤ 57 := by omega
      have hki' : (k : Int) < (i : Int) + 5 := by omega
      have hget : (s.data.toList.drop i)[k - i]'(by rw [hsl]; omega) = s[k] := by
        rw [List.getElem_drop]
        simp only [show i + (k - i) = k by omega]
        rfl
      have hsn : (s.data.toList.drop i).take (k - i + 1) = (s.data.toList.drop i).take (k - i) ++ [s[k]] := by
        rw [ltake_snoc _ _ (by rw [hsl]; omega), hget]
      have hd2 : ((s.data.toList.drop i).take (k + 1 - i)).all isDig = true ∧ valD ((s.data.toList.drop i).take (k + 1 - i)) = 10 * n + (s[k].toNat - 48) := by
        rw [show k + 1 - i = k - i + 1 by omega, hsn, List.all_append, HD.out.1, valD_snoc, HD.out.2]
        exact ⟨by simp [isDig, h48, h57], rfl⟩
      have hv2 : 10 * n + (s[k].toNat - 48) < 100000 := by
        rw [← hd2.2]
        have := valD_lt _ _ rfl hd2.1
        have hl : ((s.data.toList.drop i).take (k + 1 - i)).length ≤ 5 := by rw [List.length_take]; omega
        exact Nat.lt_of_lt_of_le this (Nat.le_trans (Nat.pow_le_pow_right (by decide) hl) (by decide))
      have HD2 := Lib.hid hd2
      clear hsn hget hd2
      go_wp2
      exact ⟨⟨k + 1, 10 * n + (s[k].toNat - 48), by omega, by omega, by omega, by go_num, by congr 1; omega, hv2, HD2⟩, by simp [intOf]; omega⟩
    · have hdq : digs (s.data.toList.drop i) = (s.data.toList.drop i).take (k - i) := by
        refine digs_eq _ _ (by omega) (by rw [hsl]; omega) HD.out.1 ?_
        rcases Nat.lt_or_ge k s.size with h1 | h1
        · rcases Nat.lt_or_ge k (i + 5) with h2 | h2
          · right; right
            refine ⟨by rw [hsl]; omega, ?_⟩
            have hget : (s.data.toList.drop i)[k - i]'(by rw [hsl]; omega) = s[k] := by
              rw [List.getElem_drop]
              simp only [show i + (k - i) = k by omega]
              rfl
            rw [hget]
            have : ¬ (48 ≤ s[k].toNat ∧ s[k].toNat ≤ 57) := fun h => hc ⟨h1, h2, h1, h⟩
            simp only [isDig, decide_eq_false_iff_not]; exact this
          · left; omega
        · right; left; rw [hsl]; omega
      have hdl : ((s.data.toList.drop i).take (k - i)).length = k - i := by rw [List.length_take, hsl]; omega
      have hnd := numS_digs _ HD.out.1 (by rw [hdl]; omega)
      rw [HD.out.2, hdl] at hnd
      have hhd : k ≠ i → ∃ h : i < s.size, ((s.data.toList.drop i).take (k - i)).head? = some s[i] := fun hne => by
        have h1 : i < s.size := by omega
        refine ⟨h1, ?_⟩
        rw [List.head?_eq_getElem?, List.getElem?_take_of_lt (by omega), List.getElem?_drop]
        simp only [Nat.add_zero]
        rw [List.getElem?_eq_getElem (by simp; exact h1)]
        rfl
      -- why the loop ends
      have hend : (¬ k < s.size) ∨ (∃ h : k < s.size, s[k].toNat < 48) ∨ (∃ h : k < s.size, 48 ≤ s[k].toNat ∧ 57 < s[k].toNat) ∨ (∃ h : k < s.size, 48 ≤ s[k].toNat ∧ s[k].toNat ≤ 57 ∧ ¬ k < i + 5) := by
        rcases Nat.lt_or_ge k s.size with h1 | h1
        · rcases Nat.lt_or_ge s[k].toNat 48 with h2 | h2
          · exact Or.inr (Or.inl ⟨h1, h2⟩)
          · rcases Nat.lt_or_ge 57 s[k].toNat with h3 | h3
            · exact Or.inr (Or.inr (Or.inl ⟨h1, h2, h3⟩))
            · refine Or.inr (Or.inr (Or.inr ⟨h1, h2, h3, ?_⟩))
              rcases Nat.lt_or_ge k (i + 5) with h4 | h4
              · exact absurd ⟨h1, h4, h1, h2, h3⟩ hc
              · omega
        · exact Or.inl (by omega)
      have HDQ := Lib.hid hdq
      have HND := Lib.hid hnd
      have HHD := Lib.hid hhd
      have HDL := Lib.hid hdl
      clear hc hdq hnd hhd hdl
      by_cases ha : k = i
      · have hno : numS (digs (s.data.toList.drop i)) = none := by rw [HDQ.out]; exact HND.out.1 (Or.inl (by rw [← List.length_eq_zero_iff, HDL.out]; omega))
        have RA : Hid (numA (s.data.toList.drop i) = 0) := by unfold numA; rw [hno]; rfl
        have RK : Hid (numK (s.data.toList.drop i) i = -1) := by unfold numK; rw [hno]; rfl
        clear hno
        subst ha
        rcases hend with h | ⟨h, h2⟩ | ⟨h, h2, h3⟩ | ⟨h, h2, h3, h4⟩
        · have hk1 : ¬ (k : Int) < (s.size : Int) := by omega
          go_wp2
          go_ret2
          exact ⟨by rw [RA.out, RK.out]; rfl, rfl⟩
        · have hk1 : (k : Int) < (s.size : Int) := by omega
          have h48 : ¬ (48 : Int) ≤ (s[k].toNat : Int) := by omega
          go_wp2
          go_ret2
          exact ⟨by rw [RA.out, RK.out]; rfl, rfl⟩
        · have hk1 : (k : Int) < (s.size : Int) := by omega
          have h48 : (48 : Int) ≤ (s[k].toNat : Int) := by omega
          have h57 : ¬ (s[k].toNat : Int) ≤ 57 := by omega
          go_wp2
          go_ret2
          exact ⟨by rw [RA.out, RK.out]; rfl, rfl⟩
        · exact absurd h4 (by omega)
      have hei : ((k : Int) == (i : Int)) = false := by simp; omega
      by_cases hb : 4096 ≤ n
      · have hno : numS (digs (s.data.toList.drop i)) = none := by rw [HDQ.out]; exact HND.out.1 (Or.inr (Or.inl hb))
        have RA : Hid (numA (s.data.toList.drop i) = 0) := by unfold numA; rw [hno]; rfl
        have RK : Hid (numK (s.data.toList.drop i) i = -1) := by unfold numK; rw [hno]; rfl
        have hb' : (4096 : Int) ≤ (n : Int) := by omega
        clear hno
        rcases hend with h | ⟨h, h2⟩ | ⟨h, h2, h3⟩ | ⟨h, h2, h3, h4⟩
        · have hk1 : ¬ (k : Int) < (s.size : Int) := by omega
          go_wp2
          go_ret2
          exact ⟨by rw [RA.out, RK.out]; rfl, rfl⟩
        · have hk1 : (k : Int) < (s.size : Int) := by omega
          have h48 : ¬ (48 : Int) ≤ (s[k].toNat : Int) := by omega
          go_wp2
          go_ret2
          exact ⟨by rw [RA.out, RK.out]; rfl, rfl⟩
        · have hk1 : (k : Int) < (s.size : Int) := by omega
          have h48 : (48 : Int) ≤ (s[k].toNat : Int) := by omega
          have h57 : ¬ (s[k].toNat : Int) ≤ 57 := by omega
          go_wp2
          go_ret2
          exact ⟨by rw [RA.out, RK.out]; rfl, rfl⟩
        · have hk1 : (k : Int) < (s.size : Int) := by omega
          have h48 : (48 : Int) ≤ (s[k].toNat : Int) := by omega
          have h57 : (s[k].toNat : Int) ≤ 57 := by omega
          have hki : ¬ (k : Int) < (i : Int) + 5 := by omega
          clear h4
          go_wp2
          go_ret2
          exact ⟨by rw [RA.out, RK.out]; rfl, rfl⟩
      have hb' : ¬ (4096 : Int) ≤ (n : Int) := by omega
      obtain ⟨his, hhd⟩ := HHD.out ha
      have his' : (i : Int) < (s.size : Int) := by omega
      have HH := Lib.hid hhd
      clear hhd
      by_cases hz : s[i] = 48
      · have hz' : ((s[i].toNat : Int) == 48) = true := by rw [hz]; rfl
        by_cases hk : i + 1 < k
        · have hno : numS (digs (s.data.toList.drop i)) = none := by rw [HDQ.out]; exact HND.out.1 (Or.inr (Or.inr ⟨by rw [HH.out, hz], by omega⟩))
          have RA : Hid (numA (s.data.toList.drop i) = 0) := by unfold numA; rw [hno]; rfl
          have RK : Hid (numK (s.data.toList.drop i) i = -1) := by unfold numK; rw [hno]; rfl
          have hk' : (i : Int) + 1 < (k : Int) := by omega
          clear hno
          rcases hend with h | ⟨h, h2⟩ | ⟨h, h2, h3⟩ | ⟨h, h2, h3, h4⟩
          · have hk1 : ¬ (k : Int) < (s.size : Int) := by omega
            go_wp2
            go_ret2
            exact ⟨by rw [RA.out, RK.out]; rfl, rfl⟩
          · have hk1 : (k : Int) < (s.size : Int) := by omega
            have h48 : ¬ (48 : Int) ≤ (s[k].toNat : Int) := by omega
            go_wp2
            go_ret2
            exact ⟨by rw [RA.out, RK.out]; rfl, rfl⟩
          · have hk1 : (k : Int) < (s.size : Int) := by omega
            have h48 : (48 : Int) ≤ (s[k].toNat : Int) := by omega
            have h57 : ¬ (s[k].toNat : Int) ≤ 57 := by omega
            go_wp2
            go_ret2
            exact ⟨by rw [RA.out, RK.out]; rfl, rfl⟩
          · have hk1 : (k : Int) < (s.size : Int) := by omega
            have h48 : (48 : Int) ≤ (s[k].toNat : Int) := by omega
            have h57 : (s[k].toNat : Int) ≤ 57 := by omega
            have hki : ¬ (k : Int) < (i : Int) + 5 := by omega
            clear h4
            go_wp2
            go_ret2
            exact ⟨by rw [RA.out, RK.out]; rfl, rfl⟩
        · have hno : numS (digs (s.data.toList.drop i)) = some n := by rw [HDQ.out]; exact HND.out.2 (by
            rintro (e | e | ⟨e, e'⟩)
            · have := congrArg List.length e; rw [HDL.out] at this; simp at this; omega
            · omega
            · omega)
          have RA : Hid (numA (s.data.toList.drop i) = n) := by unfold numA; rw [hno]; rfl
          have RK : Hid (numK (s.data.toList.drop i) i = k) := by unfold numK; rw [hno, HDQ.out, HDL.out]; show ((i + (k - i) : Nat) : Int) = k; omega
          have hk' : ¬ (i : Int) + 1 < (k : Int) := by omega
          clear hno
          rcases hend with h | ⟨h, h2⟩ | ⟨h, h2, h3⟩ | ⟨h, h2, h3, h4⟩
          · have hk1 : ¬ (k : Int) < (s.size : Int) := by omega
            go_wp2
            go_ret2
            exact ⟨by rw [RA.out, RK.out]; rfl, rfl⟩
          · have hk1 : (k : Int) < (s.size : Int) := by omega
            have h48 : ¬ (48 : Int) ≤ (s[k].toNat : Int) := by omega
            go_wp2
            go_ret2
            exact ⟨by rw [RA.out, RK.out]; rfl, rfl⟩
          · have hk1 : (k : Int) < (s.size : Int) := by omega
            have h48 : (48 : Int) ≤ (s[k].toNat : Int) := by omega
            have h57 : ¬ (s[k].toNat : Int) ≤ 57 := by omega
            go_wp2
            go_ret2
            exact ⟨by rw [RA.out, RK.out]; rfl, rfl⟩
          · have hk1 : (k : Int) < (s.size : Int) := by omega
            have h48 : (48 : Int) ≤ (s[k].toNat : Int) := by omega
            have h57 : (s[k].toNat : Int) ≤ 57 := by omega
            have hki : ¬ (k : Int) < (i : Int) + 5 := by omega
            clear h4
            go_wp2
            go_ret2
            exact ⟨by rw [RA.out, RK.out]; rfl, rfl⟩
      · have hz' : ((s[i].toNat : Int) == 48) = false := by
          have : s[i].toNat ≠ 48 := fun e => hz (by rw [← UInt8.toNat_inj]; exact e)
          simp; omega
        have hno : numS (digs (s.data.toList.drop i)) = some n := by rw [HDQ.out]; exact HND.out.2 (by
          rintro (e | e | ⟨e, e'⟩)
          · have := congrArg List.length e; rw [HDL.out] at this; simp at this; omega
          · omega
          · rw [HH.out] at e; exact hz (by simpa using e))
        have RA : Hid (numA (s.data.toList.drop i) = n) := by unfold numA; rw [hno]; rfl
        have RK : Hid (numK (s.data.toList.drop i) i = k) := by unfold numK; rw [hno, HDQ.out, HDL.out]; show ((i + (k - i) : Nat) : Int) = k; omega
        clear hno
        rcases hend with h | ⟨h, h2⟩ | ⟨h, h2, h3⟩ | ⟨h, h2, h3, h4⟩
        · have hk1 : ¬ (k : Int) < (s.size : Int) := by omega
          go_wp2
          go_ret2
          exact ⟨by rw [RA.out, RK.out]; rfl, rfl⟩
        · have hk1 : (k : Int) < (s.size : Int) := by omega
          have h48 : ¬ (48 : Int) ≤ (s[k].toNat : Int) := by omega
          go_wp2
          go_ret2
          exact ⟨by rw [RA.out, RK.out]; rfl, rfl⟩
        · have hk1 : (k : Int) < (s.size : Int) := by omega
          have h48 : (48 : Int) ≤ (s[k].toNat : Int) := by omega
          have h57 : ¬ (s[k].toNat : Int) ≤ 57 := by omega
          go_wp2
          go_ret2
          exact ⟨by rw [RA.out, RK.out]; rfl, rfl⟩
        · have hk1 : (k : Int) < (s.size : Int) := by omega
          have h48 : (48 : Int) ≤ (s[k].toNat : Int) := by omega
          have h57 : (s[k].toNat : Int) ≤ 57 := by omega
          have hki : ¬ (k : Int) < (i : Int) + 5 := by omega
          clear h4
          go_wp2
          go_ret2
          exact ⟨by rw [RA.out, RK.out]; rfl, rfl⟩

end Go.Proofs.YtdfiblaboddbjaaDoor.Prs
