import Derived.Test.YtdfiblaboddbjaaGreatDoorMagPrint2
import Derived.Test.YtdfiblaboddbjaaGreatDoorMagFar
import Derived.Test.YtdfiblaboddbjaaGreatDoorMagSame
namespace Go.Proofs.YtdfiblaboddbjaaGreatDoor.Has
open Go.RowKit Go.Proofs.YtdfiblaboddbjaaGreatDoor.Base Go.Proofs.YtdfiblaboddbjaaGreatDoor.Rep Go.Proofs.YtdfiblaboddbjaaGreatDoor.Mag
set_option linter.unusedVariables false
set_option linter.unusedSimpArgs false

theorem wpList_load_row_g {P : Program} {ops : Array Oper} {rest : List Oper} {o : Oper} {a : Act} {w : World} {Q : Exit → Act → World → Prop} (hgd : Region.wanted o (yielded ops a.tmps) = true) (ty : TypeId) (x : Operand) (ho : o.op = .load ty x)
    (g : Nat) (hx : a.eval x = .pointer (some ⟨g, 0, none⟩)) (t : TypeId) (cs : Array Value) (fr : Nat × Nat) (d : TypeDesc) (hg : w.heap[g]? = some (.cells cs t fr))
    (hu : P.underlying ty = some d) (hd : (match d with | .struct _ | .array _ _ => true | _ => false) = true) (hi : (P.info? ty).map (·.size) = some cs.size)
    (h : wpList P ops Q rest (a.put o.dst (.agg cs)) w) : wpList P ops Q (o :: rest) a w :=
  wpList_step fun K hK => by rw [if_pos hgd]; exact wp_load_row ty x ho g hx t cs fr d hg hu hd hi (hK _ _ h)

/-- The program's Check. -/
theorem check (ok : Nat → Prop) (X : Lk) (tv pv ov mv : Value) (w : World) (hX : RL w ok X tv pv ov mv) (hpt : PT w) :
    Calls Tryz.prog 11 #[.agg (lcells X tv pv ov mv).toArray] w fun e w' => e = .returned (.int .i64 (codeX X)) ∧ Below w.heap.size w w' := by
  have hi := hX.info
  have hB0 : Below w.heap.size w (w.alloc (.cells (lcells X tv pv ov mv).toArray 29)) := (Below.refl _ _).alloc (Nat.le_refl _) _
  have hA : Lb (w.alloc (.cells (lcells X tv pv ov mv).toArray 29)) w.heap.size 29 X tv pv ov mv := heap_alloc_new w _
  obtain ⟨W0, hW0⟩ : ∃ W0, w.alloc (.cells (lcells X tv pv ov mv).toArray 29) = W0 := ⟨_, rfl⟩
  rw [hW0] at hB0 hA
  have HA0 := Lib.hid hA
  have HSL := Lib.hid (sizeLk hi tv pv ov mv)
  clear hA hi
  go_enter Tryz.func11, Tryz.ntmps11
  go_wp2_with (refine wpList_load_row rfl 29 _ rfl w.heap.size rfl 29 (lcells X tv pv ov mv).toArray (0, 0) _ HA0.out Tryz.underlying29 rfl HSL.out ?_)
  refine (print ok X tv pv ov mv W0 (hX.keep (Keeps.of_below hB0)) (hpt.keep hB0)).mono ?_
  rintro e w1 ⟨rfl, hb1⟩
  go_wp2
  go_ret
  exact ⟨rfl, hB0.trans (hb1.mono hB0.size)⟩

theorem run_store_link (X : Lk) (hi : X.info.length = 32) (tv pv ov mv : Value) (w : World) (ok : Nat → Prop) (hX : RL w ok X tv pv ov mv) (w1 : World) :
    (storeCells ⟨w1.heap.size, 0, none⟩ (lcells X tv pv ov mv)).run Tryz.prog (w1.alloc (.cells Twin.zeroL 29)) = .ok () ((w1.alloc (.cells Twin.zeroL 29)).setRow w1.heap.size (lcells X tv pv ov mv).toArray) := by
  obtain ⟨a1, c1, rfl, _⟩ := hX.trackers
  obtain ⟨a2, c2, rfl, _⟩ := hX.peers
  obtain ⟨a3, c3, rfl, _⟩ := hX.only
  obtain ⟨a4, c4, rfl, _⟩ := hX.more
  exact run_storeCells_list _ _ 29 _ _ (Go.heap_alloc_new w1 _) (by rw [lcells_length hi]; rfl) (Twin.lcells_one _ _ _ _ _ _ _ _ _ _ _ _)

end Go.Proofs.YtdfiblaboddbjaaGreatDoor.Has
