/-
  MagnetTwoWay: the law's walk.
-/
import Derived.Test.YtdfiblaboddbjaaGreatDoorMagAwk
namespace Go.Proofs.YtdfiblaboddbjaaGreatDoor.Prs
open Go.RowKit Go.Proofs.YtdfiblaboddbjaaGreatDoor.Base Go.Proofs.YtdfiblaboddbjaaGreatDoor.Rep Go.Proofs.YtdfiblaboddbjaaGreatDoor.Mag Go.Proofs.YtdfiblaboddbjaaGreatDoor.Has
set_option linter.unusedVariables false
set_option linter.unusedSimpArgs false
attribute [-go_sem] Instr.build
attribute [local go_sem] run_build0

theorem out_text {P : Pk} {s : ByteArray} (hc : codeX P.lk = 0) (h : textL P.lk = s.data.toList) : outX P.lk = s := by
  unfold outX; rw [if_pos hc, h, ba_eta]

set_option maxHeartbeats 8000000 in
set_option maxRecDepth 100000 in
theorem twoWayLaw (s : ByteArray) (w : World) (hs : s.size ≤ 1048576) (hG : Ground w) :
    Calls Tryz.prog 3 #[.string s] w fun e w' => e = .returned (.bool true) ∧ Below w.heap.size w w' := by
  have htp := text_parse s.data.toList
  have hp : ∀ w', Ground w' → Calls Tryz.prog 8 #[.string s] w' _ := fun w' hg => parse s w' hs hg
  have hsl : s.data.toList.length = s.size := by simp
  rw [hsl] at htp
  obtain ⟨R, hR⟩ : ∃ R, parseS s.data.toList = R := ⟨_, rfl⟩
  rw [hR] at htp
  simp only [hR] at hp
  clear hR hsl
  obtain ⟨P, pos, er⟩ := R
  simp only at htp hp
  have HP := Lib.hid hp
  have HA := Lib.hid (awake w hG)
  have HG := Lib.hid hG
  clear hp hG
  go_enter Tryz.func3, Tryz.ntmps3
  have HTP := Lib.hid htp
  clear htp
  go_wp2_with fail
  refine HA.out.mono ?_
  rintro e w0 ⟨rfl, hb0⟩
  have HB0 := Lib.hid hb0
  have HG0 : Hid (Ground w0) := HG.out.keep hb0
  clear hb0
  go_wp2_with fail
  refine (HP.out w0 HG0.out).mono ?_
  rintro e w1 ⟨⟨tv, pv, ov, mv, rfl, hO⟩, hb1⟩
  have hs1 := hO.store (w1.alloc (.cells Twin.zeroL 29)) w1.heap.size Twin.zeroL rfl (Go.heap_alloc_new _ _)
  have hll : (lcells P.lk tv pv ov mv).length = 37 := lcells_length (X := P.lk) hO.info _ _ _ _
  have hr1 := setRow_new w1 Twin.zeroL 29 (lcells P.lk tv pv ov mv).toArray
  obtain ⟨W1, hW1⟩ : ∃ W1, (w1.alloc (.cells Twin.zeroL 29)).setRow w1.heap.size (lcells P.lk tv pv ov mv).toArray = W1 := ⟨_, rfl⟩
  rw [hW1] at hs1 hr1
  have HL1 : Hid (Lb W1 w1.heap.size 29 P.lk tv pv ov mv) := hr1.1
  have HO1 := Lib.hid (hO.below hr1.2.1)
  have HB1 : Hid (Below w.heap.size w W1) := HB0.out.trans ((hb1.trans (hr1.2.1.mono hb1.size)).mono HB0.out.size)
  have HI : Hid (P.info.length = 32) := hO.info
  have HSL := Lib.hid (sizeLk (X := P.lk) hO.info tv pv ov mv)
  have HPT : Hid (PT W1) := HG.out.pt.keep HB1.out
  clear hO hr1 hb1
  by_cases hE : er = 0
  · subst hE
    obtain ⟨h0, hg, ht, hl⟩ := HTP.out.1 rfl
    subst h0
    have hc : codeX P.lk = 0 := (code_good HI.out).2 ⟨hg, by rw [ht]; simpa using hl⟩
    have ho := out_text hc ht
    have HRL : ∀ w', Below W1.heap.size W1 w' → RL w' (fun b => w0.heap.size ≤ b) P.lk tv pv ov mv := fun w' h => (HO1.out.below h).rl (by decide)
    have hck : ∀ w', Below W1.heap.size W1 w' → Calls Tryz.prog 11 #[.agg (lcells P.lk tv pv ov mv).toArray] w' fun e w'' => e = .returned (.int .i64 0) ∧ Below w'.heap.size w' w'' := fun w' h => by
      have := check _ P.lk tv pv ov mv w' (HRL w' h) (HPT.out.keep h)
      rw [hc] at this
      exact this
    have hpr : ∀ w', Below W1.heap.size W1 w' → Calls Tryz.prog 12 #[.agg (lcells P.lk tv pv ov mv).toArray] w' fun e w'' => e = .returned (.tuple #[.string s, .int .i64 0]) ∧ Below w'.heap.size w' w'' := fun w' h => by
      have := print _ P.lk tv pv ov mv w' (HRL w' h) (HPT.out.keep h)
      rw [hc, ho] at this
      exact this
    have HCK := Lib.hid hck
    have HPR := Lib.hid hpr
    clear hg ht hl hc ho HRL hck hpr HTP
    go_wp2_with fail
    clear hs1 hll
    refine (numC 0 _).mono ?_
    rintro e w' ⟨rfl, hw⟩
    obtain rfl := hw.symm
    clear hw
    go_wp2_with (refine wpList_load_row rfl 29 _ rfl w1.heap.size rfl 29 (lcells P.lk tv pv ov mv).toArray (0, 0) _ HL1.out Tryz.underlying29 rfl HSL.out ?_)
    refine (HCK.out _ (Below.refl _ _)).mono ?_
    rintro e w2 ⟨rfl, hb2⟩
    have Hb2 := Lib.hid hb2
    have HL2 : Hid (Lb w2 w1.heap.size 29 P.lk tv pv ov mv) := HL1.out.below hb2
    clear hb2
    go_wp2_with (refine wpList_load_row rfl 29 _ rfl w1.heap.size rfl 29 (lcells P.lk tv pv ov mv).toArray (0, 0) _ HL2.out Tryz.underlying29 rfl HSL.out ?_)
    refine (HPR.out _ Hb2.out).mono ?_
    rintro e w3 ⟨rfl, hb3⟩
    have HB3 : Hid (Below w.heap.size w w3) := HB1.out.trans ((Hb2.out.mono HB1.out.size).trans (hb3.mono (Nat.le_trans HB1.out.size Hb2.out.size)))
    clear hb3
    go_wp2_with fail
    refine (numC 0 _).mono ?_
    rintro e w' ⟨rfl, hw⟩
    obtain rfl := hw.symm
    clear hw
    go_wp2_with fail
    refine (numC 0 _).mono ?_
    rintro e w' ⟨rfl, hw⟩
    obtain rfl := hw.symm
    clear hw
    go_wp2
    go_ret
    exact ⟨by simp, HB3.out⟩
  · obtain ⟨hb, ha0, ha1⟩ := HTP.out.2 hE
    subst hb
    have hE' : (er == 0) = false := by simpa using hE
    have HSM : Hid (Calls Tryz.prog 10 #[.agg (lcells Pk.bare.lk tv pv ov mv).toArray, .agg bareC.toArray] W1 fun e w' => e = .returned (.bool true) ∧ Below W1.heap.size W1 w') :=
      Same.same _ _ Pk.bare.lk tv pv ov mv (.slice none 0 0) (.slice none 0 0) (.slice none 0 0) (.slice none 0 0) W1 (HO1.out.rl (by decide)) ((OL.bare W1 0 0).rl (by decide))
    clear HTP
    go_wp2_with fail
    clear hs1 hll
    refine (numC er _).mono ?_
    rintro e w' ⟨rfl, hw⟩
    obtain rfl := hw.symm
    clear hw
    go_wp2_with (refine wpList_load_row rfl 29 _ rfl w1.heap.size rfl 29 (lcells Pk.bare.lk tv pv ov mv).toArray (0, 0) _ HL1.out Tryz.underlying29 rfl HSL.out ?_)
    refine HSM.out.mono ?_
    rintro e w2 ⟨rfl, hb2⟩
    have HB2 : Hid (Below w.heap.size w w2) := HB1.out.trans (hb2.mono HB1.out.size)
    clear hb2
    go_wp2
    go_ret
    exact ⟨by simp, HB2.out⟩

end Go.Proofs.YtdfiblaboddbjaaGreatDoor.Prs
