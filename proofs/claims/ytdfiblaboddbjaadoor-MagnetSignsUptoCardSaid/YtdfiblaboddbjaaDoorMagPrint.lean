import Derived.Test.YtdfiblaboddbjaaDoorMagWtn
import Derived.Test.YtdfiblaboddbjaaDoorMagTwin2
namespace Go.Proofs.YtdfiblaboddbjaaDoor.Has
open Go.RowKit Go.Proofs.YtdfiblaboddbjaaDoor.Base Go.Proofs.YtdfiblaboddbjaaDoor.Rep Go.Proofs.YtdfiblaboddbjaaDoor.Mag
set_option linter.unusedVariables false
set_option linter.unusedSimpArgs false

/-- What stands against pair j's key. -/
def badJ (X : Lk) (j : Nat) : Prop := kindI (X.xk j) < 5 ∨ (0 < j ∧ X.xk j = X.xk (j - 1))
def kindsBad (X : Lk) : Prop := ∃ j, j < X.xn ∧ badJ X j
/-- What Check answers. -/
noncomputable def codeX (X : Lk) : Int := bif T (formP X) then (bif T (apartP X.only) then (bif T (sortedP X) then (bif T (dupP X.trackers) then 225 else bif T (dupP X.peers) then 225 else bif T (kindsBad X) then 225 else if 4096 < (textL X).length then 221 else 0) else 227) else 227) else 226

noncomputable def outX (X : Lk) : ByteArray := if codeX X = 0 then ⟨(textL X).toArray⟩ else ⟨#[]⟩

theorem sizeLk {X : Lk} (hi : X.info.length = 32) (tv pv ov mv : Value) : (Tryd.prog.info? 28).map (·.size) = some (lcells X tv pv ov mv).toArray.size := by
  simp only [List.size_toArray, lcells_length hi]; exact Twin.sizeL

set_option maxHeartbeats 8000000 in
set_option maxRecDepth 100000 in
theorem rcheck (ok : Nat → Prop) (X : Lk) (tv pv ov mv : Value) (w : World) (hX : RL w ok X tv pv ov mv) (hpt : PT w) :
    Calls Tryd.prog 13 #[.agg (lcells X tv pv ov mv).toArray] w fun e w' => e = .returned (.int .i64 (codeX X)) ∧ Below w.heap.size w w' := by
  have hi := hX.info
  have hB0 : Below w.heap.size w (w.alloc (.cells (lcells X tv pv ov mv).toArray 28)) := (Below.refl _ _).alloc (Nat.le_refl _) _
  have hA : Lb (w.alloc (.cells (lcells X tv pv ov mv).toArray 28)) w.heap.size 28 X tv pv ov mv := heap_alloc_new w _
  obtain ⟨W0, hW0⟩ : ∃ W0, w.alloc (.cells (lcells X tv pv ov mv).toArray 28) = W0 := ⟨_, rfl⟩
  rw [hW0] at hB0 hA
  have HA0 := Lib.hid hA
  have HI := Lib.hid hi
  have HX := Lib.hid hX
  have HPT := Lib.hid hpt
  have HSL := Lib.hid (sizeLk hi tv pv ov mv)
  have hmore := hX.more
  have hxn : X.xn ≤ 1048576 := by obtain ⟨_, _, _, _, ⟨_, h, _⟩, _⟩ := hX.more; exact h
  clear hX hA hi hpt hmore
  go_enter Tryd.func13, Tryd.ntmps13
  go_wp2_with (refine wpList_load_row rfl 28 _ rfl w.heap.size rfl 28 (lcells X tv pv ov mv).toArray (0, 0) _ HA0.out Tryd.underlying28 rfl HSL.out ?_)
  refine (rform ok X tv pv ov mv W0 (HX.out.keep (Keeps.of_below hB0))).mono ?_
  rintro e w1 ⟨rfl, hb1⟩
  have hB1 : Below w.heap.size w w1 := hB0.trans (hb1.mono hB0.size)
  have HA1 := Lib.hid (HA0.out.below hb1)
  clear hb1 hB0
  cases h1 : T (formP X) with
  | false =>
    have hf : codeX X = 226 := by simp [codeX, h1]
    go_wp2
    go_ret
    exact ⟨by first | rfl | (rw [hf]; rfl), hB1⟩
  | true =>
  have hform : formP X := T_iff.1 h1
  have hwh := hform.2.2.1
  have H1 := Lib.hid h1
  have c35 := HA1.out.cell 35
  rw [lcells_35 HI.out] at c35
  clear hform h1
  go_wp2_with fail
  refine (rapart ok X.only ov w1 (HX.out.only.keep (Keeps.of_below hB1)) hwh).mono ?_
  rintro e w2 ⟨rfl, hb2⟩
  have HWH := Lib.hid hwh
  have hB2 : Below w.heap.size w w2 := hB1.trans (hb2.mono hB1.size)
  have HA2 := Lib.hid (HA1.out.below hb2)
  clear hb2 hB1 c35 hwh
  cases h2 : T (apartP X.only) with
  | false =>
    have hf : codeX X = 227 := by simp [codeX, H1.out, h2]
    go_wp2
    go_ret
    exact ⟨by first | rfl | (rw [hf]; rfl), hB2⟩
  | true =>
  have H2 := Lib.hid h2
  clear h2
  go_wp2_with fail
  obtain ⟨a3, c3, rfl, hn3, ⟨hcm3, h203, -⟩, ha3⟩ := HX.out.more
  have HPP := Lib.hid ha3
  clear ha3
  go_loopw [4] (fun v4 wr => ∃ k : Nat, 1 ≤ k ∧ v4 = .int .i64 k ∧ k ≤ 1048577 ∧ Below w.heap.size w wr ∧ Hid (Lb wr w.heap.size 28 X tv pv ov (.slice a3 X.xn c3)) ∧ Hid (∀ j, j + 1 < k → j + 1 < X.xn → lessB (X.xk (j + 1)) (X.xk j) = false)) (fun v4 _ => 1048577 - (intOf v4).toNat)
  case atStart => exact ⟨1, Nat.le_refl _, rfl, by omega, hB2, HA2, fun j hj => by omega⟩
  case round =>
    obtain ⟨k, hk1, rfl, hk, hB, HA, hno⟩ := hrel
    have hwr := hB.size
    have c36 := HA.out.cell 36
    rw [lcells_36 HI.out] at c36
    by_cases hlt : k < X.xn
    · obtain ⟨q, rfl⟩ : ∃ q, k = q + 1 := ⟨k - 1, by omega⟩
      rcases HPP.out with h0 | ⟨B, o, rfl, ha⟩
      · omega
      obtain ⟨cs, hcell, _, hrv⟩ := ha (q + 1) (by omega)
      obtain ⟨cs', hcell', _, hrv'⟩ := ha q (by omega)
      replace hcell := hcell.keep (Keeps.of_below hB)
      replace hcell' := hcell'.keep (Keeps.of_below hB)
      have x0 := hcell.cell 0 rfl
      have y0 := hcell'.cell 0 rfl
      simp only [Nat.add_zero] at x0 y0
      clear ha hcell hcell' hrv hrv'
      have e1 : IntKind.i64.wrap (((q + 1 : Nat) : Int) - 1) = (q : Int) := by rw [IntWalk.i64_in _ (by omega)]; omega
      have hk0 : (0 : Int) ≤ ((q + 1 : Nat) : Int) := by omega
      have hk1 : ((q + 1 : Nat) : Int) < (X.xn : Int) := by omega
      have hk2 : (0 : Int) ≤ (q : Int) := by omega
      have hk3 : (q : Int) < (X.xn : Int) := by omega
      have hk4 : (0 : Int) ≤ (q : Int) + 1 := by omega
      have hk5 : (q : Int) + 1 < (X.xn : Int) := by omega
      have hk6 : ((q : Int) + 1).toNat = q + 1 := by omega
      have e2 : IntKind.i64.wrap ((q : Int) + 1 - 1) = (q : Int) := by rw [IntWalk.i64_in _ (by omega)]; omega
      have e3 : IntKind.i64.wrap (q : Int) = (q : Int) := IntWalk.i64_in _ (by omega)
      cases hl : lessB (X.xk (q + 1)) (X.xk q) with
      | true =>
        have hf : codeX X = 227 := by
          have : T (sortedP X) = false := T_false (fun h => by rw [h q (by omega)] at hl; cases hl)
          simp [codeX, H1.out, H2.out, this]
        unfold lessB at hl
        go_wp2_with fail
        go_quiet (fail)
        go_wp2
        go_ret
        exact ⟨by first | rfl | (rw [hf]; rfl), below_N hB _⟩
      | false =>
        have HL := Lib.hid hl
        unfold lessB at hl
        go_wp2_with fail
        go_quiet (fail)
        go_wp2
        exact ⟨⟨q + 1 + 1, by omega, by go_num, by omega, below_N hB _, HA, fun j h1 h2 => by
          by_cases e : j = q
          · subst e; exact HL.out
          · exact hno.out j (by omega) h2⟩, by simp [intOf]; omega⟩
    · have hso : T (sortedP X) = true := T_true (fun j hj => hno.out j (by omega) hj)
      have HSO := Lib.hid hso
      have HS1 := Lib.hid (SS.of (HX.out.trackers.keep (Keeps.of_below hB)))
      have hk0 : (0 : Int) ≤ (k : Int) := by omega
      have hk2 : (X.xn : Int) ≤ (k : Int) := by omega
      have c33 := HA.out.cell 33
      rw [lcells_33 HI.out] at c33
      clear hso
      go_wp2_with fail
      refine (twice X.trackers tv wr HS1.out).mono ?_
      rintro e w3 ⟨rfl, hb3⟩
      have hB3 : Below w.heap.size w w3 := hB.trans (hb3.mono hwr)
      have HA3 := Lib.hid (HA.out.below hb3)
      have HS2 := Lib.hid (SS.of (HX.out.peers.keep (Keeps.of_below hB3)))
      have c34 := HA3.out.cell 34
      rw [lcells_34 HI.out] at c34
      clear hb3 c33 c36
      go_wp2_with fail
      refine (twice X.peers pv w3 HS2.out).mono ?_
      rintro e w4 ⟨rfl, hb4⟩
      have hB4 : Below w.heap.size w w4 := hB3.trans (hb4.mono hB3.size)
      have HA4 := Lib.hid (HA3.out.below hb4)
      clear hb4 c34
      cases h3 : T (dupP X.trackers) with
      | true =>
        have hf : codeX X = 225 := by simp [codeX, H1.out, H2.out, HSO.out, h3]
        go_wp2
        go_ret
        exact ⟨by first | rfl | (rw [hf]; rfl), hB4⟩
      | false =>
      cases h4 : T (dupP X.peers) with
      | true =>
        have hf : codeX X = 225 := by simp [codeX, H1.out, H2.out, HSO.out, h3, h4]
        go_wp2
        go_ret
        exact ⟨by first | rfl | (rw [hf]; rfl), hB4⟩
      | false =>
      have H3 := Lib.hid h3
      have H4 := Lib.hid h4
      clear h3 h4
      go_wp2_with fail
      go_loopw [7] (fun v7 wr => ∃ k : Nat, k ≤ X.xn ∧ v7 = .int .i64 k ∧ Below w.heap.size w wr ∧ Hid (Lb wr w.heap.size 28 X tv pv ov (.slice a3 X.xn c3)) ∧ Hid (∀ j, j < k → ¬ badJ X j)) (fun v7 _ => X.xn - (intOf v7).toNat)
      case atStart => exact ⟨0, Nat.zero_le _, rfl, hB4, HA4, fun j hj => by omega⟩
      case round =>
        obtain ⟨k, hk, rfl, hB, HA, hno⟩ := hrel
        have hwr := hB.size
        have c36 := HA.out.cell 36
        rw [lcells_36 HI.out] at c36
        have hk0 : (0 : Int) ≤ (k : Int) := by omega
        by_cases hlt : k < X.xn
        · rcases HPP.out with h0 | ⟨B, o, rfl, ha⟩
          · omega
          obtain ⟨cs, hcell, _, hrv⟩ := ha k (by omega)
          replace hcell := hcell.keep (Keeps.of_below hB)
          have x0 := hcell.cell 0 rfl
          simp only [Nat.add_zero] at x0
          have hk1 : (k : Int) < (X.xn : Int) := by omega
          by_cases hki : kindI (X.xk k) < 5
          · have hf : codeX X = 225 := by
              have : T (kindsBad X) = true := T_true ⟨k, hlt, Or.inl hki⟩
              simp [codeX, H1.out, H2.out, HSO.out, H3.out, H4.out, this]
            clear ha hcell hrv
            go_wp2_with fail
            go_quiet ((go_at_call 38; refine Calls.quiet_of_same (rkind (X.xk k) _)))
            go_wp2
            go_ret
            exact ⟨by first | rfl | (rw [hf]; rfl), below_N hB _⟩
          have hk5d : decide (kindI (X.xk k) < 5) = false := decide_eq_false hki
          have hk5e : (5 : Int) ≤ kindI (X.xk k) := by omega
          have hk5f : (kindI (X.xk k) < 5) = False := eq_false hki
          by_cases hz : k = 0
          · subst hz
            simp only [Nat.zero_mul, Nat.add_zero] at x0
            clear ha hcell hrv
            go_wp2_with fail
            go_quiet ((go_at_call 38; refine Calls.quiet_of_same (rkind (X.xk 0) _)))
            go_wp2
            exact ⟨⟨0 + 1, by omega, by go_num, below_N hB _, HA, fun j hj => by
              obtain rfl : j = 0 := by omega
              rintro (h | ⟨h, _⟩)
              · omega
              · omega⟩, by simp [intOf]; omega⟩
          obtain ⟨q, rfl⟩ : ∃ q, k = q + 1 := ⟨k - 1, by omega⟩
          obtain ⟨cs', hcell', _, hrv'⟩ := ha q (by omega)
          replace hcell' := hcell'.keep (Keeps.of_below hB)
          have y0 := hcell'.cell 0 rfl
          simp only [Nat.add_zero] at y0
          clear ha hcell hrv hcell' hrv'
          have e1 : IntKind.i64.wrap (((q + 1 : Nat) : Int) - 1) = (q : Int) := by rw [IntWalk.i64_in _ (by omega)]; omega
          have hk2 : (0 : Int) ≤ (q : Int) := by omega
          have hk3 : (q : Int) < (X.xn : Int) := by omega
          have hk4 : (0 : Int) ≤ (q : Int) + 1 := by omega
          have hk5 : (q : Int) + 1 < (X.xn : Int) := by omega
          have hk6 : ((q : Int) + 1).toNat = q + 1 := by omega
          have hk7 : (0 : Int) < (q : Int) + 1 := by omega
          have hk8 : (0 : Int) < ((q + 1 : Nat) : Int) := by omega
          have e2 : IntKind.i64.wrap ((q : Int) + 1 - 1) = (q : Int) := by rw [IntWalk.i64_in _ (by omega)]; omega
          have e3 : IntKind.i64.wrap (q : Int) = (q : Int) := IntWalk.i64_in _ (by omega)
          have hse := str_beq (X.xk (q + 1)) (X.xk q)
          by_cases hs : X.xk (q + 1) = X.xk q
          · have hf : codeX X = 225 := by
              have : T (kindsBad X) = true := T_true ⟨q + 1, hlt, Or.inr ⟨by omega, by simpa using hs⟩⟩
              simp [codeX, H1.out, H2.out, HSO.out, H3.out, H4.out, this]
            rw [decide_eq_true hs] at hse
            clear hs
            go_wp2_with fail
            go_quiet ((go_at_call 38; refine Calls.quiet_of_same (rkind (X.xk (q + 1)) _)))
            go_wp2
            go_ret
            exact ⟨by first | rfl | (rw [hf]; rfl), below_N hB _⟩
          · rw [decide_eq_false hs] at hse
            have HS := Lib.hid hs
            clear hs
            go_wp2_with fail
            go_quiet ((go_at_call 38; refine Calls.quiet_of_same (rkind (X.xk (q + 1)) _)))
            go_wp2
            exact ⟨⟨q + 1 + 1, by omega, by go_num, below_N hB _, HA, fun j hj => by
              by_cases e : j = q + 1
              · subst e
                rintro (h | ⟨_, h⟩)
                · omega
                · exact HS.out (by simpa using h)
              · exact hno.out j (by omega)⟩, by simp [intOf]; omega⟩
        · have hkb : T (kindsBad X) = false := T_false (by rintro ⟨j, hj, hb⟩; exact hno.out j (by omega) hb)
          have HKB := Lib.hid hkb
          have hk2 : (X.xn : Int) ≤ (k : Int) := by omega
          clear hkb
          go_wp2_with (refine wpList_load_row rfl 28 _ rfl w.heap.size rfl 28 (lcells X tv pv ov (.slice a3 X.xn c3)).toArray (0, 0) _ HA.out Tryd.underlying28 rfl HSL.out ?_)
          refine (rtext ok X tv pv ov (.slice a3 X.xn c3) wr (HX.out.keep (Keeps.of_below hB)) HWH.out (HPT.out.keep hB)).mono ?_
          rintro e w5 ⟨rfl, hb5⟩
          have hB5 : Below w.heap.size w w5 := hB.trans (hb5.mono hwr)
          have hln : (⟨(textL X).toArray⟩ : ByteArray).size = (textL X).length := by simp [ByteArray.size]
          by_cases hlen : 4096 < (textL X).length
          · have hf : codeX X = 221 := by simp [codeX, H1.out, H2.out, HSO.out, H3.out, H4.out, HKB.out, hlen]
            have hl2 : (4096 : Int) < ((textL X).length : Int) := by omega
            go_wp2
            go_ret
            exact ⟨by first | rfl | (rw [hf]; rfl), hB5⟩
          · have hf : codeX X = 0 := by simp [codeX, H1.out, H2.out, HSO.out, H3.out, H4.out, HKB.out, hlen]
            have hl2 : ¬ (4096 : Int) < ((textL X).length : Int) := by omega
            go_wp2
            go_ret
            exact ⟨by first | rfl | (rw [hf]; rfl), hB5⟩

end Go.Proofs.YtdfiblaboddbjaaDoor.Has
