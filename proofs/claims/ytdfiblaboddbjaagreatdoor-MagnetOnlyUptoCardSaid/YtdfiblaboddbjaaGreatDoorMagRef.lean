import Derived.Test.YtdfiblaboddbjaaGreatDoorMagEsc
import Derived.Deep.RegionHeld3
namespace Go.Proofs.YtdfiblaboddbjaaGreatDoor.Mag
open Go.RowKit Go.Proofs.YtdfiblaboddbjaaGreatDoor.Base
set_option linter.unusedVariables false
set_option linter.unusedSimpArgs false

/-- the place of the first byte c, -1: none -/
def plc (l : List UInt8) (c : Nat) : Int := match l.findIdx? (fun b => b.toNat == c) with | some i => (i : Int) | none => -1

theorem plc_hit (l : List UInt8) (c k : Nat) (hk : k < l.length) (h : l[k].toNat = c) (hn : ∀ j (hj : j < k), (l[j]'(by omega)).toNat ≠ c) : plc l c = k := by
  have : l.findIdx? (fun b => b.toNat == c) = some k := by
    rw [List.findIdx?_eq_some_iff_getElem]
    exact ⟨hk, by simpa using h, fun j hj => by simpa using hn j hj⟩
  simp [plc, this]
theorem plc_miss (l : List UInt8) (c : Nat) (hn : ∀ j (hj : j < l.length), (l[j]).toNat ≠ c) : plc l c = -1 := by
  have : l.findIdx? (fun b => b.toNat == c) = none := by
    rw [List.findIdx?_eq_none_iff]
    intro x hx
    obtain ⟨j, hj, rfl⟩ := List.getElem_of_mem hx
    simpa using hn j hj
  simp [plc, this]

theorem run_index_hex (n : Nat) (h : n < 16) (w : World) : (Instr.index 9 (.string ⟨#[48, 49, 50, 51, 52, 53, 54, 55, 56, 57, 65, 66, 67, 68, 69, 70]⟩) (.int .u8 (n : Int))).run Tryz.prog w = .ok (.int .u8 ((hexC n).toNat : Int)) w := by
  have := run_index_str Tryz.underlying9 ⟨#[48, 49, 50, 51, 52, 53, 54, 55, 56, 57, 65, 66, 67, 68, 69, 70]⟩ .u8 n h w
  rw [hexC_eq n h] at this
  exact this
theorem bare_plc (c : Nat) (h : c < 256) : decide (plc [65, 66, 67, 68, 69, 70, 71, 72, 73, 74, 75, 76, 77, 78, 79, 80, 81, 82, 83, 84, 85, 86, 87, 88, 89, 90, 97, 98, 99, 100, 101, 102, 103, 104, 105, 106, 107, 108, 109, 110, 111, 112, 113, 114, 115, 116, 117, 118, 119, 120, 121, 122, 48, 49, 50, 51, 52, 53, 54, 55, 56, 57, 45, 46, 95, 126, 33, 36, 39, 40, 41, 42, 44, 59, 58, 64, 47, 63] c ≥ 0) = bareB c := by
  have : ∀ c : Fin 256, decide (plc [65, 66, 67, 68, 69, 70, 71, 72, 73, 74, 75, 76, 77, 78, 79, 80, 81, 82, 83, 84, 85, 86, 87, 88, 89, 90, 97, 98, 99, 100, 101, 102, 103, 104, 105, 106, 107, 108, 109, 110, 111, 112, 113, 114, 115, 116, 117, 118, 119, 120, 121, 122, 48, 49, 50, 51, 52, 53, 54, 55, 56, 57, 45, 46, 95, 126, 33, 36, 39, 40, 41, 42, 44, 59, 58, 64, 47, 63] c.1 ≥ 0) = bareB c.1 := by decide +kernel
  exact this ⟨c, h⟩

end Go.Proofs.YtdfiblaboddbjaaGreatDoor.Mag
