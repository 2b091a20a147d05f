/-
  MagnetParses: the law's walk.
-/
import Derived.Test.YtdfiblaboddbjaaDoorMagPgS
import Derived.Test.YtdfiblaboddbjaaDoorMagLaw
namespace Go.Proofs.YtdfiblaboddbjaaDoor.Prs
open Go.RowKit Go.Proofs.YtdfiblaboddbjaaDoor.Base Go.Proofs.YtdfiblaboddbjaaDoor.Rep Go.Proofs.YtdfiblaboddbjaaDoor.Mag Go.Proofs.YtdfiblaboddbjaaDoor.Has
set_option linter.unusedVariables false
set_option linter.unusedSimpArgs false

set_option maxHeartbeats 4000000 in
set_option maxRecDepth 100000 in
theorem parsesLaw (s : ByteArray) (w : World) (hs : s.size ≤ 1048576) (hG : Ground w) :
    Calls Tryd.prog 5 #[.string s] w fun e w' => e = .returned (.bool true) ∧ Below w.heap.size w w' := by
  have hp := parse s w hs hG
  have hr : ∀ w', Calls Tryd.prog 15 #[.string s] w' _ := fun w' => rparse s w' hs
  obtain ⟨R, hR⟩ : ∃ R, parseS s.data.toList = R := ⟨_, rfl⟩
  rw [hR] at hp
  simp only [hR] at hr
  clear hR hG
  have HP := Lib.hid hp
  have HR := Lib.hid hr
  clear hp hr
  go_enter Tryd.func5, Tryd.ntmps5
  go_wp2_with fail
  refine HP.out.mono ?_
  rintro e w1 ⟨⟨tv, pv, ov, mv, rfl, hO⟩, hb1⟩
  have hs1 := hO.store (w1.alloc (.cells Twin.zeroL 28)) w1.heap.size Twin.zeroL rfl (Go.heap_alloc_new _ _)
  have hll : (lcells R.1.lk tv pv ov mv).length = 37 := lcells_length (X := R.1.lk) hO.info _ _ _ _
  have hr1 := setRow_new w1 Twin.zeroL 28 (lcells R.1.lk tv pv ov mv).toArray
  obtain ⟨W1, hW1⟩ : ∃ W1, (w1.alloc (.cells Twin.zeroL 28)).setRow w1.heap.size (lcells R.1.lk tv pv ov mv).toArray = W1 := ⟨_, rfl⟩
  rw [hW1] at hs1 hr1
  have HL1 : Hid (Lb W1 w1.heap.size 28 R.1.lk tv pv ov mv) := hr1.1
  have HO1 := Lib.hid (hO.below hr1.2.1)
  have HB1 : Hid (Below w.heap.size w W1) := hb1.trans (hr1.2.1.mono hb1.size)
  have HI : Hid (R.1.info.length = 32) := hO.info
  have HSL := Lib.hid (sizeLk (X := R.1.lk) hO.info tv pv ov mv)
  clear hO hr1 hb1
  go_wp2_with fail
  clear hs1 hll
  refine (HR.out W1).mono ?_
  rintro e w2 ⟨⟨tv', pv', ov', mv', rfl, hO2⟩, hb2⟩
  have hs2 := hO2.store (w2.alloc (.cells Twin.zeroL 28)) w2.heap.size Twin.zeroL rfl (Go.heap_alloc_new _ _)
  have hll : (lcells R.1.lk tv' pv' ov' mv').length = 37 := lcells_length (X := R.1.lk) hO2.info _ _ _ _
  have hr2 := setRow_new w2 Twin.zeroL 28 (lcells R.1.lk tv' pv' ov' mv').toArray
  obtain ⟨W2, hW2⟩ : ∃ W2, (w2.alloc (.cells Twin.zeroL 28)).setRow w2.heap.size (lcells R.1.lk tv' pv' ov' mv').toArray = W2 := ⟨_, rfl⟩
  rw [hW2] at hs2 hr2
  have HL2 : Hid (Lb W2 w2.heap.size 28 R.1.lk tv' pv' ov' mv') := hr2.1
  have HO2 := Lib.hid (hO2.below hr2.2.1)
  have HB2 : Hid (Below w.heap.size w W2) := HB1.out.trans ((hb2.mono HB1.out.size).trans (hr2.2.1.mono (Nat.le_trans HB1.out.size hb2.size)))
  have HL1' : Hid (Lb W2 w1.heap.size 28 R.1.lk tv pv ov mv) := (HL1.out.below hb2).below hr2.2.1
  have HO1' := Lib.hid ((HO1.out.below hb2).below hr2.2.1)
  have HSL' := Lib.hid (sizeLk (X := R.1.lk) hO2.info tv' pv' ov' mv')
  clear hO2 hr2 hb2
  go_wp2_with (first
    | (refine wpList_load_row rfl 28 _ rfl w1.heap.size rfl 28 (lcells R.1.lk tv pv ov mv).toArray (0, 0) _ HL1'.out Tryd.underlying28 rfl HSL.out ?_)
    | (refine wpList_load_row rfl 28 _ rfl w2.heap.size rfl 28 (lcells R.1.lk tv' pv' ov' mv').toArray (0, 0) _ HL2.out Tryd.underlying28 rfl HSL'.out ?_))
  refine (Same.same _ _ R.1.lk tv pv ov mv tv' pv' ov' mv' W2 (HO1'.out.rl (by decide)) (HO2.out.rl (by decide))).mono ?_
  rintro e w6 ⟨rfl, hb6⟩
  go_wp2
  go_ret
  exact ⟨rfl, HB2.out.trans (hb6.mono HB2.out.size)⟩

end Go.Proofs.YtdfiblaboddbjaaDoor.Prs
