import Derived.Test.YtdfiblaboddbjaaGreatDoorMagRef
import Derived.Test.YtdfiblaboddbjaaGreatDoorMagUne
namespace Go.Proofs.YtdfiblaboddbjaaGreatDoor.Mag
open Go.RowKit Go.Proofs.YtdfiblaboddbjaaGreatDoor.Base
set_option linter.unusedVariables false
set_option linter.unusedSimpArgs false

theorem plc_hex (c : UInt8) : plc [48, 49, 50, 51, 52, 53, 54, 55, 56, 57, 65, 66, 67, 68, 69, 70] c.toNat = hexV c := by
  have : ∀ c : Fin 256, plc [48, 49, 50, 51, 52, 53, 54, 55, 56, 57, 65, 66, 67, 68, 69, 70] c.1 = hexV (UInt8.ofNat c.1) := by decide +kernel
  have h := this ⟨c.toNat, UInt8.toNat_lt c⟩
  simpa using h

end Go.Proofs.YtdfiblaboddbjaaGreatDoor.Mag
