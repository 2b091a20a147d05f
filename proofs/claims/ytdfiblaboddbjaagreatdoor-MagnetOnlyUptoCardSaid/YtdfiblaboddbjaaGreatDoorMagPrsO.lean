/-
  The document's ordered.
-/
import Derived.Test.YtdfiblaboddbjaaGreatDoorMagPrsS
import Derived.Laws.Cover1
namespace Go.Proofs.YtdfiblaboddbjaaGreatDoor.Prs
open Go.RowKit Go.Proofs.YtdfiblaboddbjaaGreatDoor.Base Go.Proofs.YtdfiblaboddbjaaGreatDoor.Rep Go.Proofs.YtdfiblaboddbjaaGreatDoor.Mag Go.Proofs.YtdfiblaboddbjaaGreatDoor.Has
set_option linter.unusedVariables false
set_option linter.unusedSimpArgs false

theorem kindI_range (s : ByteArray) : 0 ≤ kindI s ∧ kindI s ≤ 5 := by
  unfold kindI
  repeat' split
  all_goals omega

/-- The rules of order and of parameters twice, of a key that is not xt. -/
noncomputable def orderE (tl pl : List ByteArray) (last key value : ByteArray) : Int :=
  if kindI key < kindI last then 227
  else if ((kindI key = 1 ∨ kindI key = 2) ∧ kindI last = kindI key) ∨ (kindI key = 3 ∧ hasB tl value = true) ∨ (kindI key = 4 ∧ hasB pl value = true) ∨ (kindI key = 5 ∧ last = key) then 225
  else if kindI key = 5 ∧ kindI last = 5 ∧ lessB last key = false then 227
  else 0

end Go.Proofs.YtdfiblaboddbjaaGreatDoor.Prs
