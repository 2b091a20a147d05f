import Derived.Test.YtdfiblaboddbjaaGreatDoorMagWtn
import Derived.Test.YtdfiblaboddbjaaGreatDoorMagTwin2
namespace Go.Proofs.YtdfiblaboddbjaaGreatDoor.Has
open Go.RowKit Go.Proofs.YtdfiblaboddbjaaGreatDoor.Base Go.Proofs.YtdfiblaboddbjaaGreatDoor.Rep Go.Proofs.YtdfiblaboddbjaaGreatDoor.Mag
set_option linter.unusedVariables false
set_option linter.unusedSimpArgs false

/-- What stands against pair j's key. -/
def badJ (X : Lk) (j : Nat) : Prop := kindI (X.xk j) < 5 ∨ (0 < j ∧ X.xk j = X.xk (j - 1))
def kindsBad (X : Lk) : Prop := ∃ j, j < X.xn ∧ badJ X j
/-- What Check answers. -/
noncomputable def codeX (X : Lk) : Int := bif T (formP X) then (bif T (apartP X.only) then (bif T (sortedP X) then (bif T (dupP X.trackers) then 225 else bif T (dupP X.peers) then 225 else bif T (kindsBad X) then 225 else if 4096 < (textL X).length then 221 else 0) else 227) else 227) else 226

noncomputable def outX (X : Lk) : ByteArray := if codeX X = 0 then ⟨(textL X).toArray⟩ else ⟨#[]⟩

theorem sizeLk {X : Lk} (hi : X.info.length = 32) (tv pv ov mv : Value) : (Tryz.prog.info? 29).map (·.size) = some (lcells X tv pv ov mv).toArray.size := by
  simp only [List.size_toArray, lcells_length hi]; exact Twin.sizeL

end Go.Proofs.YtdfiblaboddbjaaGreatDoor.Has
