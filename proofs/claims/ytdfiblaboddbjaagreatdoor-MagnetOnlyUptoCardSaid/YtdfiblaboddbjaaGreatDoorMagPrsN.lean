/-
  The document's number and runs.
-/
import Derived.Test.YtdfiblaboddbjaaGreatDoorMagPrsF
namespace Go.Proofs.YtdfiblaboddbjaaGreatDoor.Prs
open Go.RowKit Go.Proofs.YtdfiblaboddbjaaGreatDoor.Base Go.Proofs.YtdfiblaboddbjaaGreatDoor.Rep Go.Proofs.YtdfiblaboddbjaaGreatDoor.Mag Go.Proofs.YtdfiblaboddbjaaGreatDoor.Has
set_option linter.unusedVariables false
set_option linter.unusedSimpArgs false

def numA (l : List UInt8) : Int := match numS (digs l) with
  | some n => (n : Int)
  | none => 0
def numK (l : List UInt8) (i : Nat) : Int := match numS (digs l) with
  | some _ => ((i + (digs l).length : Nat) : Int)
  | none => -1

theorem valD_lt : ∀ (n : Nat) (l : List UInt8), l.length = n → l.all isDig = true → valD l < 10 ^ n
  | 0, l, hl, _ => by rw [List.length_eq_zero_iff.1 hl]; simp [valD]
  | n + 1, l, hl, hd => by
    obtain ⟨l', c, rfl⟩ := list_snoc l (by intro e; rw [e] at hl; cases hl)
    rw [List.all_append, Bool.and_eq_true] at hd
    have := valD_lt n l' (by simpa using hl) hd.1
    have hc := (isDig_iff c).1 (by simpa using hd.2)
    rw [valD_snoc, Nat.pow_succ]; omega
theorem valD_ge : ∀ (n : Nat) (l : List UInt8), l.length = n + 1 → l.all isDig = true → l.head? ≠ some 48 → 10 ^ n ≤ valD l
  | 0, l, hl, hd, hh => by have := (decD_val 0 l hl hd hh).1; simpa using this
  | n + 1, l, hl, hd, hh => by
    obtain ⟨l', c, rfl⟩ := list_snoc l (by intro e; rw [e] at hl; cases hl)
    have hl' : l'.length = n + 1 := by simpa using hl
    have hne : l' ≠ [] := by intro e; rw [e] at hl'; cases hl'
    rw [List.all_append, Bool.and_eq_true] at hd
    have hh' : l'.head? ≠ some 48 := by
      intro e; apply hh; rw [List.head?_append, e]; rfl
    have := valD_ge n l' hl' hd.1 hh'
    rw [valD_snoc, Nat.pow_succ]; omega

theorem numS_digs (d : List UInt8) (hd : d.all isDig = true) (h5 : d.length ≤ 5) :
    (d = [] ∨ 4096 ≤ valD d ∨ (d.head? = some 48 ∧ 1 < d.length) → numS d = none) ∧ (¬ (d = [] ∨ 4096 ≤ valD d ∨ (d.head? = some 48 ∧ 1 < d.length)) → numS d = some (valD d)) := by
  constructor
  · intro h
    unfold numS
    rw [if_neg]
    rintro ⟨_, h2, h3, h4, h6⟩
    rcases h with h | h | ⟨h, h'⟩
    · exact h2 h
    · omega
    · have := h4 h; omega
  · intro h
    have h1 : d ≠ [] := fun e => h (Or.inl e)
    have h2 : valD d < 4096 := by
      rcases Nat.lt_or_ge (valD d) 4096 with h' | h'
      · exact h'
      · exact absurd (Or.inr (Or.inl h')) h
    have h3 : d.head? = some 48 → d.length = 1 := fun e => by
      have hp := List.length_pos_iff.2 h1
      rcases Nat.lt_or_ge 1 d.length with h' | h'
      · exact absurd (Or.inr (Or.inr ⟨e, h'⟩)) h
      · omega
    have h4 : d.length ≤ 4 := by
      rcases Nat.lt_or_ge 4 d.length with h' | h'
      · have hl : d.length = 4 + 1 := by omega
        by_cases e : d.head? = some 48
        · have := h3 e; omega
        · have := valD_ge 4 d hl hd e
          omega
      · exact h'
    unfold numS
    rw [if_pos ⟨hd, h1, h4, h3, h2⟩]

theorem digs_eq (l : List UInt8) (j : Nat) (h5 : j ≤ 5) (hj : j ≤ l.length) (ha : (l.take j).all isDig = true) (he : j = 5 ∨ j = l.length ∨ ∃ h : j < l.length, isDig l[j] = false) : digs l = l.take j := by
  unfold digs
  have e1 : l.take 5 = l.take j ++ (l.take 5).drop j := by
    have := (List.take_append_drop j (l.take 5)).symm
    rwa [List.take_take, Nat.min_eq_left h5] at this
  have e2 : ((l.take 5).drop j).takeWhile isDig = [] := by
    rcases he with rfl | rfl | ⟨h, hn⟩
    · simp
    · rw [List.drop_of_length_le (by rw [List.length_take]; omega)]; rfl
    · rcases Nat.lt_or_ge j 5 with h' | h'
      · rw [List.drop_eq_getElem_cons (by simp; omega), List.takeWhile_cons]
        simp [hn]
      · rw [List.drop_of_length_le (by simp; omega)]; rfl
  rw [e1, List.takeWhile_append_of_pos (by simpa [List.all_eq_true] using ha), e2, List.append_nil]

end Go.Proofs.YtdfiblaboddbjaaGreatDoor.Prs
