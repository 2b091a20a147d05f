/-
  The document's first: the infohash that the value of xt tells.
-/
import Derived.Test.YtdfiblaboddbjaaGreatDoorMagPrsR
import Derived.Test.YtdfiblaboddbjaaGreatDoorMagTwin2
import Derived.Test.YtdfiblaboddbjaaGreatDoorMagHex
namespace Go.Proofs.YtdfiblaboddbjaaGreatDoor.Prs
open Go.RowKit Go.Proofs.YtdfiblaboddbjaaGreatDoor.Base Go.Proofs.YtdfiblaboddbjaaGreatDoor.Rep Go.Proofs.YtdfiblaboddbjaaGreatDoor.Mag Go.Proofs.YtdfiblaboddbjaaGreatDoor.Has
set_option linter.unusedVariables false
set_option linter.unusedSimpArgs false

section
variable {P : Program} {fn : Func} {p q r s : Tmp} {ty : TypeId} {tmps : Array Value} {w : World} {g : Nat} {t : TypeId} {cs : Array Value} {fr : Nat × Nat} {d : TypeDesc}
/-- Results whose first is a variable of many cells. -/
theorem results_row1 (h : fn.results = #[.cell p ty, .tmp q]) (hp : tmps.getD p undef = .pointer (some ⟨g, 0, none⟩)) (hg : w.heap[g]? = some (.cells cs t fr))
    (hu : P.underlying ty = some d) (hd : (match d with | .struct _ | .array _ _ => true | _ => false) = true) (hi : (P.info? ty).map (·.size) = some cs.size) :
    (results fn tmps).run P w = .ok (.tuple #[.agg cs, tmps.getD q undef]) w := by
  have hp' : tmps[p]?.getD undef = .pointer (some ⟨g, 0, none⟩) := by simpa using hp
  simp [results, h, hp', asAddr, run_loadVar_row w g t ty cs fr d hg hu hd hi]
theorem results_row2 (h : fn.results = #[.cell p ty, .tmp q, .tmp r]) (hp : tmps.getD p undef = .pointer (some ⟨g, 0, none⟩)) (hg : w.heap[g]? = some (.cells cs t fr))
    (hu : P.underlying ty = some d) (hd : (match d with | .struct _ | .array _ _ => true | _ => false) = true) (hi : (P.info? ty).map (·.size) = some cs.size) :
    (results fn tmps).run P w = .ok (.tuple #[.agg cs, tmps.getD q undef, tmps.getD r undef]) w := by
  have hp' : tmps[p]?.getD undef = .pointer (some ⟨g, 0, none⟩) := by simpa using hp
  simp [results, h, hp', asAddr, run_loadVar_row w g t ty cs fr d hg hu hd hi]
theorem results_row3 (h : fn.results = #[.cell p ty, .tmp q, .tmp r, .tmp s]) (hp : tmps.getD p undef = .pointer (some ⟨g, 0, none⟩)) (hg : w.heap[g]? = some (.cells cs t fr))
    (hu : P.underlying ty = some d) (hd : (match d with | .struct _ | .array _ _ => true | _ => false) = true) (hi : (P.info? ty).map (·.size) = some cs.size) :
    (results fn tmps).run P w = .ok (.tuple #[.agg cs, tmps.getD q undef, tmps.getD r undef, tmps.getD s undef]) w := by
  have hp' : tmps[p]?.getD undef = .pointer (some ⟨g, 0, none⟩) := by simpa using hp
  simp [results, h, hp', asAddr, run_loadVar_row w g t ty cs fr d hg hu hd hi]
end

def hcells (l : List UInt8) : List Value := l.map fun b => Value.int .u8 (b.toNat : Int)
/-- A hash in a block of its own. -/
def Hb (w : World) (b : Nat) (l : List UInt8) : Prop := l.length = 32 ∧ w.heap[b]? = some (.cells (hcells l).toArray 24 (0, 0))
abbrev zero32 : List UInt8 := [0, 0, 0, 0, 0, 0, 0, 0, 0, 0, 0, 0, 0, 0, 0, 0, 0, 0, 0, 0, 0, 0, 0, 0, 0, 0, 0, 0, 0, 0, 0, 0]
abbrev zeroH : Array Value := #[Value.int .u8 0, Value.int .u8 0, Value.int .u8 0, Value.int .u8 0, Value.int .u8 0, Value.int .u8 0, Value.int .u8 0, Value.int .u8 0, Value.int .u8 0, Value.int .u8 0, Value.int .u8 0, Value.int .u8 0, Value.int .u8 0, Value.int .u8 0, Value.int .u8 0, Value.int .u8 0, Value.int .u8 0, Value.int .u8 0, Value.int .u8 0, Value.int .u8 0, Value.int .u8 0, Value.int .u8 0, Value.int .u8 0, Value.int .u8 0, Value.int .u8 0, Value.int .u8 0, Value.int .u8 0, Value.int .u8 0, Value.int .u8 0, Value.int .u8 0, Value.int .u8 0, Value.int .u8 0]
theorem zeroH_eq : (hcells zero32).toArray = zeroH := by kernel_rfl
theorem sizeH0 : (Tryz.prog.info? 24).map (·.size) = some 32 := by kernel_rfl
theorem sizeH {l : List UInt8} (h : l.length = 32) : (Tryz.prog.info? 24).map (·.size) = some (hcells l).toArray.size := by
  simp only [hcells, List.size_toArray, List.length_map, h]; exact sizeH0
theorem hcells_one (l : List UInt8) : ∀ v ∈ hcells l, v.oneCell' = true := by
  intro v hv; simp only [hcells, List.mem_map] at hv; obtain ⟨b, _, rfl⟩ := hv; rfl
theorem Hb.lt {w : World} {b : Nat} {l : List UInt8} (h : Hb w b l) : b < w.heap.size := (Array.getElem?_eq_some_iff.1 h.2).1
theorem Hb.below {w w' : World} {b B : Nat} {l : List UInt8} (h : Hb w b l) (hb : Below B w w') (hB : b < B) : Hb w' b l := ⟨h.1, (hb.block b hB).trans h.2⟩
theorem Hb.cell {w : World} {b : Nat} {l : List UInt8} (h : Hb w b l) (j : Nat) (hj : j < l.length) : w.cell? ⟨b, j, none⟩ = some (.int .u8 (l[j].toNat : Int)) := by
  rw [Lib.cell_of_heap h.2]; simp [hcells, hj]
theorem Hb.frozen {w : World} {b : Nat} {l : List UInt8} (h : Hb w b l) (j : Nat) : w.frozen? ⟨b, j, none⟩ = false := Lib.frozen_of_heap h.2 j
theorem Hb.set {w : World} {b : Nat} {l : List UInt8} (h : Hb w b l) (j : Nat) (c : UInt8) : Hb (w.setCell ⟨b, j, none⟩ (.int .u8 (c.toNat : Int))) b (l.set j c) := by
  refine ⟨by simp [h.1], ?_⟩
  rw [heap_setCell_same w b j _ 24 _ h.2]
  simp [hcells, List.map_set]
theorem Hb.other {w : World} {b q j : Nat} {l : List UInt8} (h : Hb w b l) (hq : b ≠ q) (u : Value) : Hb (w.setCell ⟨q, j, none⟩ u) b l := ⟨h.1, (Below.heap_setCell w ⟨q, j, none⟩ u b hq).trans h.2⟩

def mix (h : List UInt8) (k : Nat) : List UInt8 := h.take k ++ List.replicate (32 - k) 0
theorem mix_set (h : List UInt8) (hl : h.length = 32) (k : Nat) (hk : k < 32) : (mix h k).set k (h[k]'(by omega)) = mix h (k + 1) := by
  have h1 : h.take (k + 1) = h.take k ++ [h[k]'(by omega)] := ltake_snoc h k (by omega)
  have h2 : List.replicate (32 - k) (0 : UInt8) = 0 :: List.replicate (32 - (k + 1)) 0 := by
    rw [show 32 - k = (32 - (k + 1)) + 1 by omega, List.replicate_succ]
  unfold mix
  rw [h1, h2, List.set_append_right _ _ (by simp; omega)]
  rw [List.length_take, show min k h.length = k by omega, Nat.sub_self, List.set_cons_zero, List.append_assoc]
  rfl
theorem mix_len (h : List UInt8) (hl : h.length = 32) (k : Nat) (hk : k ≤ 32) : (mix h k).length = 32 := by simp [mix, hl]; omega
theorem mix_all (h : List UInt8) (hl : h.length = 32) : mix h 32 = h := by simp [mix, ← hl]

def firstV : Option (List UInt8) → List UInt8
  | some h => h
  | none => zero32
def firstE : Option (List UInt8) → Int
  | some _ => 0
  | none => 223
theorem unhex_len : ∀ (l h : List UInt8), unhexL l = some h → h.length * 2 = l.length
  | [], h, e => by simp [unhexL] at e; subst e; rfl
  | [_], h, e => by simp [unhexL] at e
  | a :: b :: r, h, e => by
    simp only [unhexL] at e
    split at e
    · cases e
    · obtain ⟨h', h1, rfl⟩ := Option.map_eq_some_iff.1 e
      have := unhex_len r h' h1
      simp; omega
theorem first_len {v h : List UInt8} (e : firstH v = some h) : h.length = 32 := by
  unfold firstH at e
  split at e
  · rename_i hc
    have := unhex_len _ _ e
    simp at this
    omega
  · cases e

theorem firstV_len (v : List UInt8) : (firstV (firstH v)).length = 32 := by
  cases h : firstH v with
  | none => rfl
  | some l => exact first_len h

end Go.Proofs.YtdfiblaboddbjaaGreatDoor.Prs
