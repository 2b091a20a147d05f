/-
  The document's Parse.
-/
import Derived.Test.YtdfiblaboddbjaaGreatDoorMagPrsP
import Derived.Deep.RegionHeld3
import Derived.Deep.MidRow
namespace Go.Proofs.YtdfiblaboddbjaaGreatDoor.Prs
open Go.RowKit Go.Proofs.YtdfiblaboddbjaaGreatDoor.Base Go.Proofs.YtdfiblaboddbjaaGreatDoor.Rep Go.Proofs.YtdfiblaboddbjaaGreatDoor.Mag Go.Proofs.YtdfiblaboddbjaaGreatDoor.Has
set_option linter.unusedVariables false
set_option linter.unusedSimpArgs false

/-- The nil link's cells. -/
def bareC : List Value := lcells Pk.bare.lk (.slice none 0 0) (.slice none 0 0) (.slice none 0 0) (.slice none 0 0)
theorem bareC_eq : bareC.toArray = Twin.zeroL := by kernel_rfl
theorem built0 : Tryz.prog.built 29 [] = some bareC.toArray := by rw [bareC_eq]; kernel_rfl
theorem run_build0 (w : World) : (Instr.build 29 #[]).run Tryz.prog w = .ok (.agg bareC.toArray) w := run_build w _ _ _ built0
attribute [-go_sem] Instr.build Instr.loadAt
attribute [local go_sem] run_build0
theorem bareC_len : bareC.length = 37 := by kernel_rfl

theorem find_none {s : ByteArray} {frm : Nat} (h : ∀ j (hj : j < s.size), frm ≤ j → s[j] ≠ 38) : (s.data.toList.drop frm).findIdx? (fun b => b == 38) = none := by
  rw [List.findIdx?_eq_none_iff]
  intro x hx
  obtain ⟨j, hj, rfl⟩ := List.getElem_of_mem hx
  have hj' : frm + j < s.size := by simp at hj; omega
  rw [List.getElem_drop]
  have := h (frm + j) hj' (by omega)
  have e : s.data.toList[frm + j]'(by simpa using hj') = s[frm + j] := rfl
  rw [e]
  simpa using this
theorem find_some {s : ByteArray} {frm i : Nat} (hi : i < s.size) (hf : frm ≤ i) (h38 : s[i] = 38) (h : ∀ j (hj : j < s.size), frm ≤ j → j < i → s[j] ≠ 38) : (s.data.toList.drop frm).findIdx? (fun b => b == 38) = some (i - frm) := by
  rw [List.findIdx?_eq_some_iff_getElem]
  refine ⟨by simp; omega, ?_, fun j hj => ?_⟩
  · rw [List.getElem_drop]
    simp only [show frm + (i - frm) = i by omega]
    show (s[i] == 38) = true
    rw [h38]; rfl
  · rw [List.getElem_drop]
    have := h (frm + j) (by omega) (by omega) (by omega)
    have e : s.data.toList[frm + j]'(by simp; omega) = s[frm + j] := rfl
    rw [e]
    simpa using this

theorem parseF_last {f o n : Nat} {rest : List UInt8} {P : Pk} {last : ByteArray} (h : rest.findIdx? (fun b => b == 38) = none) :
    parseF (f + 1) rest o P n last = if (stepP P n last rest).2.2.2 ≠ 0 then (Pk.bare, (o : Int) + (stepP P n last rest).2.2.1, (stepP P n last rest).2.2.2) else ((stepP P n last rest).1, 0, 0) := by
  rw [parseF, h]
theorem parseF_more {f o n q : Nat} {rest : List UInt8} {P : Pk} {last : ByteArray} (h : rest.findIdx? (fun b => b == 38) = some q) :
    parseF (f + 1) rest o P n last = if (stepP P n last (rest.take q)).2.2.2 ≠ 0 then (Pk.bare, (o : Int) + (stepP P n last (rest.take q)).2.2.1, (stepP P n last (rest.take q)).2.2.2)
      else parseF f (rest.drop (q + 1)) (o + q + 1) (stepP P n last (rest.take q)).1 (n + 1) (stepP P n last (rest.take q)).2.1 := by
  rw [parseF, h]
theorem stepP_off (P : Pk) (n : Nat) (last : ByteArray) (l : List UInt8) : 0 ≤ (stepP P n last l).2.2.1 ∧ (stepP P n last l).2.2.1 ≤ l.length + 1 := by
  rcases plc_range l 61 with hq | ⟨m, hm, hq⟩
  · rw [stepP_a (by omega)]; simp; omega
  · by_cases h0 : m = 0
    · rw [stepP_a (by omega)]; simp; omega
    · cases hu : une 0 (l.take m) with
      | error i =>
        rw [stepP_b hq (by omega) hu]
        have := une_err _ _ _ _ (Nat.le_refl _) hu
        simp at this ⊢; omega
      | ok kl =>
        cases hv : une 0 (l.drop (m + 1)) with
        | error i =>
          rw [stepP_c hq (by omega) hu hv]
          have := une_err _ _ _ _ (Nat.le_refl _) hv
          simp at this ⊢; omega
        | ok vl =>
          rw [stepP_d hq (by omega) hu hv]
          split <;> simp <;> omega

/-- Where the document's loop stands. -/
def Stands (s : ByteArray) (i frm n : Nat) (last : ByteArray) (P : Pk) : Prop :=
  (i ≤ s.size ∧ frm ≤ i ∧ n ≤ frm ∧ (∀ j (hj : j < s.size), frm ≤ j → j < i → s[j] ≠ 38) ∧ ∃ f, s.size - frm < f ∧ parseS s.data.toList = parseF f (s.data.toList.drop frm) frm P n last) ∨ (i = s.size + 1 ∧ parseS s.data.toList = (P, 0, 0))

end Go.Proofs.YtdfiblaboddbjaaGreatDoor.Prs
