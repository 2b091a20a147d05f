/-
  The document's runs.
-/
import Derived.Test.YtdfiblaboddbjaaGreatDoorMagPrsN
namespace Go.Proofs.YtdfiblaboddbjaaGreatDoor.Prs
open Go.RowKit Go.Proofs.YtdfiblaboddbjaaGreatDoor.Base Go.Proofs.YtdfiblaboddbjaaGreatDoor.Rep Go.Proofs.YtdfiblaboddbjaaGreatDoor.Mag Go.Proofs.YtdfiblaboddbjaaGreatDoor.Has
set_option linter.unusedVariables false
set_option linter.unusedSimpArgs false

/-- Runs as cells. -/
def rows2 (l : List (Int × Int)) : List Value := (List.range l.length).flatMap (Twin.rx l)
theorem rows2_snoc (l : List (Int × Int)) (r : Int × Int) : rows2 (l ++ [r]) = rows2 l ++ [.int .i64 r.1, .int .i64 r.2] := by
  unfold rows2
  rw [List.length_append, List.length_singleton, flat_snoc, flat_congr (Twin.rx (l ++ [r])) (Twin.rx l) l.length (fun j hj => by simp [Twin.rx, List.getD, List.getElem?_append_left hj])]
  simp [Twin.rx, List.getD]
def isS : Option (List (Int × Int)) → Bool
  | some _ => true
  | none => false

theorem dropL {s L : List UInt8} {i n k : Nat} (h : s.drop i = L) (hk : i + n = k) : L.drop n = s.drop k := by
  subst h hk; rw [List.drop_drop]

/-- what a run's end may be: the run told whole -/
def rr1 (l : List UInt8) : Option ((Int × Int) × List UInt8) := run1 l

end Go.Proofs.YtdfiblaboddbjaaGreatDoor.Prs
