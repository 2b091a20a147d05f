import Derived.Test.YtdfiblaboddbjaaGreatDoorMagBld
import Derived.Laws.Tables
import Derived.Laws.Rows
import Derived.Lib.Hide
namespace Go.Proofs.YtdfiblaboddbjaaGreatDoor.Mag
open Go.RowKit
set_option linter.unusedVariables false
set_option linter.unusedSimpArgs false

/-- the bytes that stand as they are -/
def bareB (c : Nat) : Bool := (65 ≤ c && c ≤ 90) || (97 ≤ c && c ≤ 122) || (39 ≤ c && c ≤ 42) || (44 ≤ c && c ≤ 59) || (63 ≤ c && c ≤ 64) || c == 33 || c == 36 || c == 95 || c == 126
def bareArr : Array Value := ((List.range 256).map fun i => Value.bool (bareB i)).toArray

theorem bareArr_size : bareArr.size = 256 := by simp [bareArr]
theorem bareArr_get (i : Nat) (h : i < 256) : bareArr[i]? = some (.bool (bareB i)) := by simp [bareArr, h]

def zero256 : Array Value := Array.replicate 256 (.bool false)

theorem wpList_build_eq {P : Program} {ops : Array Oper} {rest : List Oper} {o : Oper} {a : Act} {w : World} {Q : Exit → Act → World → Prop} (hg : o.guard = none) (t : TypeId) (parts : Array (Nat × Operand)) (ho : o.op = .build t parts)
    (cells : Array Value) (hf : P.built t (parts.map fun (i, x) => (i, a.eval x)).toList = some cells)
    (h : wpList P ops Q rest (a.put o.dst (.agg cells)) w) : wpList P ops Q (o :: rest) a w :=
  wpList_build hg t parts ho (by rw [hf]; rfl) (by rw [hf]; exact h)
theorem zeroBare (w : World) : (zeroValue 110).run Tryz.prog w = .ok (.agg zero256) w := by kernel_rfl
theorem sizeBare : (Tryz.prog.info? 110).map (·.size) = some bareArr.size := by kernel_rfl
theorem oneBare : bareArr.all (·.oneCell') = true := by decide +kernel

/-- A whole row of one-cell values stored over a block known whole. -/
theorem run_storeCells_row {P : Program} (w : World) (g : Nat) (t : TypeId) (old cells : Array Value) (hg : w.heap[g]? = some (.cells old t (0, 0)))
    (ho : old.size = cells.size) (h1 : cells.all (·.oneCell') = true) :
    (storeCells ⟨g, 0, none⟩ cells.toList).run P w = .ok () (w.setRow g cells) := by
  have := run_storeCells_from (P := P) g t cells.toList 0 old w hg (by simp; omega) (fun v hv => (Array.all_eq_true_iff_forall_mem.1 h1) v (by simpa using hv))
  simpa using this

set_option maxHeartbeats 1000000 in
set_option maxRecDepth 100000 in
theorem bareTable (w : World) :
    Calls Tryz.prog 64 #[] w fun e w' => e = .returned (.agg bareArr) ∧ Below w.heap.size w w' := by
  have hz := zeroBare
  have hs := run_storeCells_row (P := Tryz.prog) (w.alloc (.cells zero256 110)) w.heap.size 110 zero256 bareArr (heap_alloc_new _ _) (by simp [zero256, bareArr]) oneBare
  go_enter Tryz.func64, Tryz.ntmps64
  go_wp2_with (refine wpList_build_eq rfl 110 _ rfl bareArr (by kernel_rfl) ?_)
  refine bodyPost_ret (results_cell_row rfl _ _ w.heap.size 110 bareArr (0, 0) _ rfl (setRow_heap _ _ zero256 _ _ _ (heap_alloc_new _ _)) Tryz.underlying110 rfl sizeBare) rfl ⟨rfl, ?_⟩
  refine ⟨rfl, rfl, rfl, by simp, fun k hk => ?_⟩
  rw [setRow_other _ _ _ _ (by omega)]
  exact heap_alloc_old _ _ hk

end Go.Proofs.YtdfiblaboddbjaaGreatDoor.Mag
