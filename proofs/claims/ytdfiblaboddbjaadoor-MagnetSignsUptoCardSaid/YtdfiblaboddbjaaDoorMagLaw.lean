import Derived.Test.YtdfiblaboddbjaaDoorMagPrint2
import Derived.Test.YtdfiblaboddbjaaDoorMagFar
import Derived.Test.YtdfiblaboddbjaaDoorMagSame
namespace Go.Proofs.YtdfiblaboddbjaaDoor.Has
open Go.RowKit Go.Proofs.YtdfiblaboddbjaaDoor.Base Go.Proofs.YtdfiblaboddbjaaDoor.Rep Go.Proofs.YtdfiblaboddbjaaDoor.Mag
set_option linter.unusedVariables false
set_option linter.unusedSimpArgs false

theorem wpList_load_row_g {P : Program} {ops : Array Oper} {rest : List Oper} {o : Oper} {a : Act} {w : World} {Q : Exit → Act → World → Prop} (hgd : Region.wanted o (yielded ops a.tmps) = true) (ty : TypeId) (x : Operand) (ho : o.op = .load ty x)
    (g : Nat) (hx : a.eval x = .pointer (some ⟨g, 0, none⟩)) (t : TypeId) (cs : Array Value) (fr : Nat × Nat) (d : TypeDesc) (hg : w.heap[g]? = some (.cells cs t fr))
    (hu : P.underlying ty = some d) (hd : (match d with | .struct _ | .array _ _ => true | _ => false) = true) (hi : (P.info? ty).map (·.size) = some cs.size)
    (h : wpList P ops Q rest (a.put o.dst (.agg cs)) w) : wpList P ops Q (o :: rest) a w :=
  wpList_step fun K hK => by rw [if_pos hgd]; exact wp_load_row ty x ho g hx t cs fr d hg hu hd hi (hK _ _ h)

/-- The program's Check. -/
theorem check (ok : Nat → Prop) (X : Lk) (tv pv ov mv : Value) (w : World) (hX : RL w ok X tv pv ov mv) (hpt : PT w) :
    Calls Tryd.prog 12 #[.agg (lcells X tv pv ov mv).toArray] w fun e w' => e = .returned (.int .i64 (codeX X)) ∧ Below w.heap.size w w' := by
  have hi := hX.info
  have hB0 : Below w.heap.size w (w.alloc (.cells (lcells X tv pv ov mv).toArray 28)) := (Below.refl _ _).alloc (Nat.le_refl _) _
  have hA : Lb (w.alloc (.cells (lcells X tv pv ov mv).toArray 28)) w.heap.size 28 X tv pv ov mv := heap_alloc_new w _
  obtain ⟨W0, hW0⟩ : ∃ W0, w.alloc (.cells (lcells X tv pv ov mv).toArray 28) = W0 := ⟨_, rfl⟩
  rw [hW0] at hB0 hA
  have HA0 := Lib.hid hA
  have HSL := Lib.hid (sizeLk hi tv pv ov mv)
  clear hA hi
  go_enter Tryd.func12, Tryd.ntmps12
  go_wp2_with (refine wpList_load_row rfl 28 _ rfl w.heap.size rfl 28 (lcells X tv pv ov mv).toArray (0, 0) _ HA0.out Tryd.underlying28 rfl HSL.out ?_)
  refine (print ok X tv pv ov mv W0 (hX.keep (Keeps.of_below hB0)) (hpt.keep hB0)).mono ?_
  rintro e w1 ⟨rfl, hb1⟩
  go_wp2
  go_ret
  exact ⟨rfl, hB0.trans (hb1.mono hB0.size)⟩

set_option maxRecDepth 100000 in
/-- The document's Print. -/
theorem rprint (ok : Nat → Prop) (X : Lk) (tv pv ov mv : Value) (w : World) (hX : RL w ok X tv pv ov mv) (hpt : PT w) :
    Calls Tryd.prog 10 #[.agg (lcells X tv pv ov mv).toArray] w fun e w' => e = .returned (.tuple #[.string (outX X), .int .i64 (codeX X)]) ∧ Below w.heap.size w w' := by
  have hi := hX.info
  have hB0 : Below w.heap.size w (w.alloc (.cells (lcells X tv pv ov mv).toArray 28)) := (Below.refl _ _).alloc (Nat.le_refl _) _
  have hA : Lb (w.alloc (.cells (lcells X tv pv ov mv).toArray 28)) w.heap.size 28 X tv pv ov mv := heap_alloc_new w _
  obtain ⟨W0, hW0⟩ : ∃ W0, w.alloc (.cells (lcells X tv pv ov mv).toArray 28) = W0 := ⟨_, rfl⟩
  rw [hW0] at hB0 hA
  have HA0 := Lib.hid hA
  have HSL := Lib.hid (sizeLk hi tv pv ov mv)
  clear hA hi
  go_enter Tryd.func10, Tryd.ntmps10
  go_wp2_with (refine wpList_load_row rfl 28 _ rfl w.heap.size rfl 28 (lcells X tv pv ov mv).toArray (0, 0) _ HA0.out Tryd.underlying28 rfl HSL.out ?_)
  refine (rcheck ok X tv pv ov mv W0 (hX.keep (Keeps.of_below hB0)) (hpt.keep hB0)).mono ?_
  rintro e w1 ⟨rfl, hb1⟩
  have hB1 := hB0.trans (hb1.mono hB0.size)
  have HA1 := Lib.hid (HA0.out.below hb1)
  clear hb1
  by_cases hz : codeX X = 0
  · have hwh : whole X.only := by
      cases h1 : T (formP X) with
      | false => simp [codeX, h1] at hz
      | true => exact (T_iff.1 h1).2.2.1
    have ho : outX X = ⟨(textL X).toArray⟩ := by simp [outX, hz]
    go_wp2_with (refine wpList_load_row rfl 28 _ rfl w.heap.size rfl 28 (lcells X tv pv ov mv).toArray (0, 0) _ HA1.out Tryd.underlying28 rfl HSL.out ?_)
    refine (rtext ok X tv pv ov mv w1 (hX.keep (Keeps.of_below hB1)) hwh (hpt.keep hB1)).mono ?_
    rintro e w2 ⟨rfl, hb2⟩
    go_wp2
    go_ret2
    exact ⟨by rw [ho, hz]; rfl, hB1.trans (hb2.mono hB1.size)⟩
  · have ho : outX X = ⟨#[]⟩ := by simp [outX, hz]
    go_wp2
    go_ret2
    exact ⟨by rw [ho]; rfl, hB1⟩

theorem run_store_link (X : Lk) (hi : X.info.length = 32) (tv pv ov mv : Value) (w : World) (ok : Nat → Prop) (hX : RL w ok X tv pv ov mv) (w1 : World) :
    (storeCells ⟨w1.heap.size, 0, none⟩ (lcells X tv pv ov mv)).run Tryd.prog (w1.alloc (.cells Twin.zeroL 28)) = .ok () ((w1.alloc (.cells Twin.zeroL 28)).setRow w1.heap.size (lcells X tv pv ov mv).toArray) := by
  obtain ⟨a1, c1, rfl, _⟩ := hX.trackers
  obtain ⟨a2, c2, rfl, _⟩ := hX.peers
  obtain ⟨a3, c3, rfl, _⟩ := hX.only
  obtain ⟨a4, c4, rfl, _⟩ := hX.more
  exact run_storeCells_list _ _ 28 _ _ (Go.heap_alloc_new w1 _) (by rw [lcells_length hi]; rfl) (Twin.lcells_one _ _ _ _ _ _ _ _ _ _ _ _)

set_option maxHeartbeats 2000000 in
set_option maxRecDepth 100000 in
theorem printsLaw (X : Lk) (tv pv ov mv : Value) (w : World) (hX : RL w (fun b => b < w.heap.size) X tv pv ov mv) (hpt : PT w) :
    Calls Tryd.prog 3 #[.agg (lcells X tv pv ov mv).toArray] w fun e w' => e = .returned (.bool true) ∧ Below w.heap.size w w' := by
  have hi := hX.info
  have hB0 : Below w.heap.size w (w.alloc (.cells (lcells X tv pv ov mv).toArray 28)) := (Below.refl _ _).alloc (Nat.le_refl _) _
  have hA : Lb (w.alloc (.cells (lcells X tv pv ov mv).toArray 28)) w.heap.size 28 X tv pv ov mv := heap_alloc_new w _
  have hz0 : (w.alloc (.cells (lcells X tv pv ov mv).toArray 28)).heap.size = w.heap.size + 1 := by simp
  obtain ⟨W0, hW0⟩ : ∃ W0, w.alloc (.cells (lcells X tv pv ov mv).toArray 28) = W0 := ⟨_, rfl⟩
  rw [hW0] at hB0 hA hz0
  have HA0 := Lib.hid hA
  have HX := Lib.hid hX
  have HPT := Lib.hid hpt
  have HSL := Lib.hid (sizeLk hi tv pv ov mv)
  clear hA hX hpt
  go_enter Tryd.func3, Tryd.ntmps3
  go_wp2_with (refine wpList_load_row rfl 28 _ rfl w.heap.size rfl 28 (lcells X tv pv ov mv).toArray (0, 0) _ HA0.out Tryd.underlying28 rfl HSL.out ?_)
  refine (Far.farLink X (fun b => b < w.heap.size) tv pv ov mv W0 (HX.out.keep (Keeps.of_below hB0)) (fun k hk => by omega)).mono ?_
  rintro e w1 ⟨⟨r, rfl⟩, hb1⟩
  have hB1 := hB0.trans (hb1.mono hB0.size)
  have HA1 := Lib.hid (HA0.out.below hb1)
  clear hb1
  cases r
  case true =>
    go_wp2
    go_ret
    exact ⟨rfl, hB1⟩
  go_wp2_with (refine wpList_load_row rfl 28 _ rfl w.heap.size rfl 28 (lcells X tv pv ov mv).toArray (0, 0) _ HA1.out Tryd.underlying28 rfl HSL.out ?_)
  refine (Twin.twin (fun b => b < w.heap.size) X tv pv ov mv w1 (HX.out.keep (Keeps.of_below hB1))).mono ?_
  rintro e w2 ⟨⟨tv', pv', ov', mv', rfl, hT⟩, hb2⟩
  have hB2 := hB1.trans (hb2.mono hB1.size)
  have HA2 := Lib.hid (HA1.out.below hb2)
  have hs := run_store_link X hi tv' pv' ov' mv' _ _ hT w2
  have hr := setRow_new w2 Twin.zeroL 28 (lcells X tv' pv' ov' mv').toArray
  have hll : (lcells X tv' pv' ov' mv').length = 37 := lcells_length hi _ _ _ _
  obtain ⟨W3, hW3⟩ : ∃ W3, (w2.alloc (.cells Twin.zeroL 28)).setRow w2.heap.size (lcells X tv' pv' ov' mv').toArray = W3 := ⟨_, rfl⟩
  rw [hW3] at hs hr
  have hB3 : Below w.heap.size w W3 := hB2.trans (hr.2.1.mono hB2.size)
  have HA3 := Lib.hid (HA2.out.below hr.2.1)
  have HT3 := Lib.hid (hT.keep (Keeps.of_below hr.2.1))
  have HR3 : Hid (Lb W3 w2.heap.size 28 X tv' pv' ov' mv') := hr.1
  have HSL' := Lib.hid (sizeLk hi tv' pv' ov' mv')
  have hz3 := hr.2.2
  have HI := Lib.hid hi
  clear hr hT hb2 hi
  go_wp2_with (refine wpList_load_row rfl 28 _ rfl w.heap.size rfl 28 (lcells X tv pv ov mv).toArray (0, 0) _ HA3.out Tryd.underlying28 rfl HSL.out ?_)
  refine (print (fun b => b < w.heap.size) X tv pv ov mv W3 (HX.out.keep (Keeps.of_below hB3)) (HPT.out.keep hB3)).mono ?_
  rintro e w4 ⟨rfl, hb4⟩
  have hB4 := hB3.trans (hb4.mono hB3.size)
  have HA4 := Lib.hid (HA3.out.below hb4)
  have HR4 := Lib.hid (HR3.out.below hb4)
  have HT4 := Lib.hid (HT3.out.keep (Keeps.of_below hb4))
  clear hb4 hs hll
  go_wp2_with (refine wpList_load_row rfl 28 _ rfl w2.heap.size rfl 28 (lcells X tv' pv' ov' mv').toArray (0, 0) _ HR4.out Tryd.underlying28 rfl HSL'.out ?_)
  refine (rprint (fun b => w1.heap.size ≤ b) X tv' pv' ov' mv' w4 HT4.out (HPT.out.keep hB4)).mono ?_
  rintro e w5 ⟨rfl, hb5⟩
  have hB5 := hB4.trans (hb5.mono hB4.size)
  have HA5 := Lib.hid (HA4.out.below hb5)
  have HR5 := Lib.hid (HR4.out.below hb5)
  have HT5 := Lib.hid (HT4.out.keep (Keeps.of_below hb5))
  clear hb5
  go_wp2_with (first
    | (refine wpList_load_row_g (by rfl) 28 _ rfl w.heap.size rfl 28 (lcells X tv pv ov mv).toArray (0, 0) _ HA5.out Tryd.underlying28 rfl HSL.out ?_)
    | (refine wpList_load_row_g (by rfl) 28 _ rfl w2.heap.size rfl 28 (lcells X tv' pv' ov' mv').toArray (0, 0) _ HR5.out Tryd.underlying28 rfl HSL'.out ?_))
  refine (Same.same (fun b => b < w.heap.size) (fun b => w1.heap.size ≤ b) X tv pv ov mv tv' pv' ov' mv' w5 (HX.out.keep (Keeps.of_below hB5)) HT5.out).mono ?_
  rintro e w6 ⟨rfl, hb6⟩
  go_wp2
  go_ret
  exact ⟨rfl, hB5.trans (hb6.mono hB5.size)⟩

set_option maxHeartbeats 2000000 in
set_option maxRecDepth 100000 in
theorem checksLaw (X : Lk) (tv pv ov mv : Value) (w : World) (hX : RL w (fun b => b < w.heap.size) X tv pv ov mv) (hpt : PT w) :
    Calls Tryd.prog 4 #[.agg (lcells X tv pv ov mv).toArray] w fun e w' => e = .returned (.bool true) ∧ Below w.heap.size w w' := by
  have hi := hX.info
  have hB0 : Below w.heap.size w (w.alloc (.cells (lcells X tv pv ov mv).toArray 28)) := (Below.refl _ _).alloc (Nat.le_refl _) _
  have hA : Lb (w.alloc (.cells (lcells X tv pv ov mv).toArray 28)) w.heap.size 28 X tv pv ov mv := heap_alloc_new w _
  have hz0 : (w.alloc (.cells (lcells X tv pv ov mv).toArray 28)).heap.size = w.heap.size + 1 := by simp
  obtain ⟨W0, hW0⟩ : ∃ W0, w.alloc (.cells (lcells X tv pv ov mv).toArray 28) = W0 := ⟨_, rfl⟩
  rw [hW0] at hB0 hA hz0
  have HA0 := Lib.hid hA
  have HX := Lib.hid hX
  have HPT := Lib.hid hpt
  have HSL := Lib.hid (sizeLk hi tv pv ov mv)
  clear hA hX hpt
  go_enter Tryd.func4, Tryd.ntmps4
  go_wp2_with (refine wpList_load_row rfl 28 _ rfl w.heap.size rfl 28 (lcells X tv pv ov mv).toArray (0, 0) _ HA0.out Tryd.underlying28 rfl HSL.out ?_)
  refine (Far.farLink X (fun b => b < w.heap.size) tv pv ov mv W0 (HX.out.keep (Keeps.of_below hB0)) (fun k hk => by omega)).mono ?_
  rintro e w1 ⟨⟨r, rfl⟩, hb1⟩
  have hB1 := hB0.trans (hb1.mono hB0.size)
  have HA1 := Lib.hid (HA0.out.below hb1)
  clear hb1
  cases r
  case true =>
    go_wp2
    go_ret
    exact ⟨rfl, hB1⟩
  go_wp2_with (refine wpList_load_row rfl 28 _ rfl w.heap.size rfl 28 (lcells X tv pv ov mv).toArray (0, 0) _ HA1.out Tryd.underlying28 rfl HSL.out ?_)
  refine (Twin.twin (fun b => b < w.heap.size) X tv pv ov mv w1 (HX.out.keep (Keeps.of_below hB1))).mono ?_
  rintro e w2 ⟨⟨tv', pv', ov', mv', rfl, hT⟩, hb2⟩
  have hB2 := hB1.trans (hb2.mono hB1.size)
  have HA2 := Lib.hid (HA1.out.below hb2)
  have hs := run_store_link X hi tv' pv' ov' mv' _ _ hT w2
  have hr := setRow_new w2 Twin.zeroL 28 (lcells X tv' pv' ov' mv').toArray
  have hll : (lcells X tv' pv' ov' mv').length = 37 := lcells_length hi _ _ _ _
  obtain ⟨W3, hW3⟩ : ∃ W3, (w2.alloc (.cells Twin.zeroL 28)).setRow w2.heap.size (lcells X tv' pv' ov' mv').toArray = W3 := ⟨_, rfl⟩
  rw [hW3] at hs hr
  have hB3 : Below w.heap.size w W3 := hB2.trans (hr.2.1.mono hB2.size)
  have HA3 := Lib.hid (HA2.out.below hr.2.1)
  have HT3 := Lib.hid (hT.keep (Keeps.of_below hr.2.1))
  have HR3 : Hid (Lb W3 w2.heap.size 28 X tv' pv' ov' mv') := hr.1
  have HSL' := Lib.hid (sizeLk hi tv' pv' ov' mv')
  have hz3 := hr.2.2
  have HI := Lib.hid hi
  clear hr hT hb2 hi
  go_wp2_with (refine wpList_load_row rfl 28 _ rfl w.heap.size rfl 28 (lcells X tv pv ov mv).toArray (0, 0) _ HA3.out Tryd.underlying28 rfl HSL.out ?_)
  refine (check (fun b => b < w.heap.size) X tv pv ov mv W3 (HX.out.keep (Keeps.of_below hB3)) (HPT.out.keep hB3)).mono ?_
  rintro e w4 ⟨rfl, hb4⟩
  have hB4 := hB3.trans (hb4.mono hB3.size)
  have HA4 := Lib.hid (HA3.out.below hb4)
  have HR4 := Lib.hid (HR3.out.below hb4)
  have HT4 := Lib.hid (HT3.out.keep (Keeps.of_below hb4))
  clear hb4 hs hll
  go_wp2_with (refine wpList_load_row rfl 28 _ rfl w2.heap.size rfl 28 (lcells X tv' pv' ov' mv').toArray (0, 0) _ HR4.out Tryd.underlying28 rfl HSL'.out ?_)
  refine (rcheck (fun b => w1.heap.size ≤ b) X tv' pv' ov' mv' w4 HT4.out (HPT.out.keep hB4)).mono ?_
  rintro e w5 ⟨rfl, hb5⟩
  have hB5 := hB4.trans (hb5.mono hB4.size)
  have HA5 := Lib.hid (HA4.out.below hb5)
  have HR5 := Lib.hid (HR4.out.below hb5)
  have HT5 := Lib.hid (HT4.out.keep (Keeps.of_below hb5))
  clear hb5
  go_wp2_with (first
    | (refine wpList_load_row_g (by rfl) 28 _ rfl w.heap.size rfl 28 (lcells X tv pv ov mv).toArray (0, 0) _ HA5.out Tryd.underlying28 rfl HSL.out ?_)
    | (refine wpList_load_row_g (by rfl) 28 _ rfl w2.heap.size rfl 28 (lcells X tv' pv' ov' mv').toArray (0, 0) _ HR5.out Tryd.underlying28 rfl HSL'.out ?_))
  refine (Same.same (fun b => b < w.heap.size) (fun b => w1.heap.size ≤ b) X tv pv ov mv tv' pv' ov' mv' w5 (HX.out.keep (Keeps.of_below hB5)) HT5.out).mono ?_
  rintro e w6 ⟨rfl, hb6⟩
  go_wp2
  go_ret
  exact ⟨rfl, hB5.trans (hb6.mono hB5.size)⟩

end Go.Proofs.YtdfiblaboddbjaaDoor.Has
