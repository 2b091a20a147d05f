/-
  The document's part.
-/
import Derived.Test.YtdfiblaboddbjaaGreatDoorMagPrsJ
namespace Go.Proofs.YtdfiblaboddbjaaGreatDoor.Prs
open Go.RowKit Go.Proofs.YtdfiblaboddbjaaGreatDoor.Base Go.Proofs.YtdfiblaboddbjaaGreatDoor.Rep Go.Proofs.YtdfiblaboddbjaaGreatDoor.Mag Go.Proofs.YtdfiblaboddbjaaGreatDoor.Has
set_option linter.unusedVariables false
set_option linter.unusedSimpArgs false

theorem plc_range (l : List UInt8) (c : Nat) : plc l c = -1 ∨ ∃ m, m < l.length ∧ plc l c = (m : Int) := by
  unfold plc
  cases h : l.findIdx? (fun b => b.toNat == c) with
  | none => left; rfl
  | some i =>
    right
    exact ⟨i, (List.findIdx?_eq_some_iff_getElem.1 h).1, rfl⟩
theorem une_len : ∀ (n : Nat) (l : List UInt8) (i : Nat) (r : List UInt8), l.length ≤ n → une i l = .ok r → r.length ≤ l.length
  | _, [], i, r, _, h => by simp [une] at h; subst h; simp
  | 0, c :: l, i, r, hn, h => by simp at hn
  | n + 1, c :: l, i, r, hn, h => by
    by_cases hb : bareB c.toNat = true
    · rw [une_bare i c l hb] at h
      cases hu : une (i + 1) l with
      | error e => rw [hu] at h; cases h
      | ok r' =>
        rw [hu] at h
        injection h with h
        subst h
        have := une_len n l (i + 1) r' (by simp at hn; omega) hu
        simp; omega
    · have hb' : bareB c.toNat = false := by simpa using hb
      match l, hn, h with
      | [], hn, h => rw [une_short i c [] hb' (by simp)] at h; cases h
      | [x], hn, h => rw [une_short i c [x] hb' (by simp)] at h; cases h
      | x :: y :: l', hn, h =>
        rw [une_long i c x y l' hb'] at h
        split at h
        · split at h
          · cases h
          · cases hu : une (i + 3) l' with
            | error e => rw [hu] at h; cases h
            | ok r' =>
              rw [hu] at h
              injection h with h
              subst h
              have := une_len n l' (i + 3) r' (by simp at hn; omega) hu
              simp; omega
        · cases h

theorem une_err : ∀ (n : Nat) (l : List UInt8) (i j : Nat), l.length ≤ n → une i l = .error j → j ≤ i + l.length
  | _, [], i, j, _, h => by simp [une] at h
  | 0, c :: l, i, j, hn, h => by simp at hn
  | n + 1, c :: l, i, j, hn, h => by
    by_cases hb : bareB c.toNat = true
    · rw [une_bare i c l hb] at h
      cases hu : une (i + 1) l with
      | ok r' => rw [hu] at h; cases h
      | error e =>
        rw [hu] at h
        injection h with h
        subst h
        have := une_err n l (i + 1) e (by simp at hn; omega) hu
        simp; omega
    · have hb' : bareB c.toNat = false := by simpa using hb
      match l, hn, h with
      | [], hn, h => rw [une_short i c [] hb' (by simp)] at h; injection h with h; omega
      | [x], hn, h => rw [une_short i c [x] hb' (by simp)] at h; injection h with h; omega
      | x :: y :: l', hn, h =>
        rw [une_long i c x y l' hb'] at h
        split at h
        · split at h
          · injection h with h; omega
          · cases hu : une (i + 3) l' with
            | ok r' => rw [hu] at h; cases h
            | error e =>
              rw [hu] at h
              injection h with h
              subst h
              have := une_err n l' (i + 3) e (by simp at hn; omega) hu
              simp; omega
        · injection h with h; omega

theorem stepP_a {P : Pk} {n : Nat} {last : ByteArray} {l : List UInt8} (h : plc l 61 < 1) : stepP P n last l = (P, ⟨#[]⟩, 0, 226) := by unfold stepP; rw [if_pos h]
theorem stepP_b {P : Pk} {n m i : Nat} {last : ByteArray} {l : List UInt8} (h : plc l 61 = (m : Int)) (hm : 1 ≤ m) (hu : une 0 (l.take m) = .error i) : stepP P n last l = (P, ⟨#[]⟩, (i : Int), 222) := by
  unfold stepP; rw [if_neg (by omega), h, Int.toNat_natCast, hu]
theorem stepP_c {P : Pk} {n m i : Nat} {last : ByteArray} {l kl : List UInt8} (h : plc l 61 = (m : Int)) (hm : 1 ≤ m) (hu : une 0 (l.take m) = .ok kl) (hv : une 0 (l.drop (m + 1)) = .error i) : stepP P n last l = (P, ⟨#[]⟩, (m : Int) + 1 + i, 222) := by
  unfold stepP; rw [if_neg (by omega), h, Int.toNat_natCast, hu]; simp only [hv]
theorem stepP_d {P : Pk} {n m : Nat} {last : ByteArray} {l kl vl : List UInt8} (h : plc l 61 = (m : Int)) (hm : 1 ≤ m) (hu : une 0 (l.take m) = .ok kl) (hv : une 0 (l.drop (m + 1)) = .ok vl) :
    stepP P n last l = if placeE P n last ⟨kl.toArray⟩ ⟨vl.toArray⟩ ≠ 0 then (P, ⟨#[]⟩, 0, placeE P n last ⟨kl.toArray⟩ ⟨vl.toArray⟩) else ((holdP P ⟨kl.toArray⟩ ⟨vl.toArray⟩).1, ⟨kl.toArray⟩, 0, (holdP P ⟨kl.toArray⟩ ⟨vl.toArray⟩).2) := by
  unfold stepP; rw [if_neg (by omega), h, Int.toNat_natCast, hu]; simp only [hv]
theorem kind0 (s : ByteArray) : kindI s = 0 ↔ s = ⟨#[120, 116]⟩ := by
  unfold kindI
  constructor
  · intro h
    by_cases e : s = ⟨#[120, 116]⟩
    · exact e
    · rw [if_neg e] at h
      repeat' split at h
      all_goals omega
  · intro h; rw [if_pos h]
theorem placeE_other {P : Pk} {n : Nat} {last key value : ByteArray} (hk : kindI key ≠ 0) (hn : n ≠ 0) : placeE P n last key value = orderE P.trackers P.peers last key value := by
  unfold placeE orderE
  rw [if_neg (fun h => hn h.1), if_neg hk]
theorem placeE_first {P : Pk} {last key value : ByteArray} (hk : kindI key ≠ 0) : placeE P 0 last key value = 223 := by
  unfold placeE; rw [if_pos ⟨rfl, hk⟩]
theorem placeE_xt {P : Pk} {n : Nat} {last key value : ByteArray} (hk : kindI key = 0) : placeE P n last key value = if oldHash.isPrefixOf value.data.toList = true then 224 else if 0 < n then 225 else 0 := by
  unfold placeE; rw [if_neg (fun h => h.2 hk), if_pos hk]

def infoP (P : Pk) : Option (List UInt8) → Pk × Int
  | some h => ({ P with info := h }, 0)
  | none => (P, 223)

/-- What a part's call hands back. -/
def PartPost (B N : Nat) (P : Pk) (n : Nat) (last : ByteArray) (l : List UInt8) (w : World) (e : Ending) (w' : World) : Prop :=
  (∃ (Q : Pk) (tv' pv' ov' mv' : Value) (key' : ByteArray), e = .returned (.tuple #[.agg (lcells Q.lk tv' pv' ov' mv').toArray, .string key', .int .i64 (stepP P n last l).2.2.1, .int .i64 (stepP P n last l).2.2.2]) ∧ OL w' B (N + 1) Q tv' pv' ov' mv' ∧
    ((stepP P n last l).2.2.2 = 0 → Q = (stepP P n last l).1 ∧ key' = (stepP P n last l).2.1)) ∧ Below B w w' ∧ KeptT w w'

theorem info_part {X : Lk} (hi : X.info.length = 32) (tv pv ov mv : Value) (h : List UInt8) (hh : h.length = 32) : (hcells h) ++ (lcells X tv pv ov mv).drop 32 = lcells { X with info := h } tv pv ov mv := by
  simp [lcells, hcells, hi]

end Go.Proofs.YtdfiblaboddbjaaGreatDoor.Prs
