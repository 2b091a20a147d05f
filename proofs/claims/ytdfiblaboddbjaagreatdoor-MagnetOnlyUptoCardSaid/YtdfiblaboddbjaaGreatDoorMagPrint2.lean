import Derived.Test.YtdfiblaboddbjaaGreatDoorMagPrint
import Derived.BigQuiet
namespace Go.Proofs.YtdfiblaboddbjaaGreatDoor.Has
open Go.RowKit Go.Proofs.YtdfiblaboddbjaaGreatDoor.Base Go.Proofs.YtdfiblaboddbjaaGreatDoor.Rep Go.Proofs.YtdfiblaboddbjaaGreatDoor.Mag
set_option linter.unusedVariables false
set_option linter.unusedSimpArgs false

/-- A world in which all that lay in W lies as it lay. -/
structure Later (W : World) where
  w : World
  below : Below W.heap.size W w
instance later_there (W : World) : Nonempty (Later W) := ⟨⟨W, Below.refl _ _⟩⟩
/-- A region that draws its order, whose operations read and whose callees make new blocks alone: one walk in the text's order. -/
theorem wp_region_quiet_later {P : Program} {id : Nat} {Q : Exit → Act → World → Prop} {a : Act} {w : World} {l : List Oper} (hm : P.follows .mixedOrders = true) (hB : Region.lexB .any l.toArray = true)
    (h : wpQuiet P l.toArray (fun w' => ∃ x : Later w.drew, w' = x.w) (fun a' => ∀ w', (∃ x : Later w.drew, w' = x.w) → Q .normal a' w') l a) : (Code.region id l.toArray true).wp P Q a w :=
  wp_region_quiet (C := fun w' => ∃ x : Later w.drew, w' = x.w) hm hB ⟨⟨w.drew, Below.refl _ _⟩, rfl⟩ (by simpa using h)

set_option maxHeartbeats 8000000 in
set_option maxRecDepth 100000 in
theorem print (ok : Nat → Prop) (X : Lk) (tv pv ov mv : Value) (w : World) (hX : RL w ok X tv pv ov mv) (hpt : PT w) :
    Calls Tryz.prog 12 #[.agg (lcells X tv pv ov mv).toArray] w fun e w' => e = .returned (.tuple #[.string (outX X), .int .i64 (codeX X)]) ∧ Below w.heap.size w w' := by
  have hi := hX.info
  have hB0 : Below w.heap.size w (w.alloc (.cells (lcells X tv pv ov mv).toArray 29)) := (Below.refl _ _).alloc (Nat.le_refl _) _
  have hA : Lb (w.alloc (.cells (lcells X tv pv ov mv).toArray 29)) w.heap.size 29 X tv pv ov mv := heap_alloc_new w _
  obtain ⟨W0, hW0⟩ : ∃ W0, w.alloc (.cells (lcells X tv pv ov mv).toArray 29) = W0 := ⟨_, rfl⟩
  rw [hW0] at hB0 hA
  have HA0 := Lib.hid hA
  have HI := Lib.hid hi
  have HX := Lib.hid hX
  have HPT := Lib.hid hpt
  have HSL := Lib.hid (sizeLk hi tv pv ov mv)
  have hxn : X.xn ≤ 1048576 := by obtain ⟨_, _, _, _, ⟨_, h, _⟩, _⟩ := hX.more; exact h
  clear hX hA hi hpt
  go_enter Tryz.func12, Tryz.ntmps12
  go_wp2_with (refine wpList_load_row rfl 29 _ rfl w.heap.size rfl 29 (lcells X tv pv ov mv).toArray (0, 0) _ HA0.out Tryz.underlying29 rfl HSL.out ?_)
  refine (wellFormed ok X tv pv ov mv W0 (HX.out.keep (Keeps.of_below hB0))).mono ?_
  rintro e w1 ⟨rfl, hb1⟩
  have hB1 : Below w.heap.size w w1 := hB0.trans (hb1.mono hB0.size)
  have HA1 := Lib.hid (HA0.out.below hb1)
  clear hb1 hB0
  cases h1 : T (formP X) with
  | false =>
    have hf : codeX X = 226 := by simp [codeX, h1]
    have ho : outX X = ⟨#[]⟩ := by simp [outX, hf]
    go_wp2
    go_ret2
    exact ⟨by rw [hf, ho]; rfl, hB1⟩
  | true =>
  have hform : formP X := T_iff.1 h1
  have hwh := hform.2.2.1
  have H1 := Lib.hid h1
  have c35 := HA1.out.cell 35
  rw [lcells_35 HI.out] at c35
  clear hform h1
  go_wp2_with fail
  refine (apart ok X.only ov w1 (HX.out.only.keep (Keeps.of_below hB1)) hwh).mono ?_
  rintro e w2 ⟨rfl, hb2⟩
  have HWH := Lib.hid hwh
  have hB2 : Below w.heap.size w w2 := hB1.trans (hb2.mono hB1.size)
  have HA2 := Lib.hid (HA1.out.below hb2)
  clear hb2 hB1 c35 hwh
  cases h2 : T (apartP X.only) with
  | false =>
    have hf : codeX X = 227 := by simp [codeX, H1.out, h2]
    have ho : outX X = ⟨#[]⟩ := by simp [outX, hf]
    go_wp2
    go_ret2
    exact ⟨by rw [hf, ho]; rfl, hB2⟩
  | true =>
  have H2 := Lib.hid h2
  have c36 := HA2.out.cell 36
  rw [lcells_36 HI.out] at c36
  clear h2
  go_wp2_with fail
  refine (isSorted ok X mv w2 (HX.out.more.keep (Keeps.of_below hB2))).mono ?_
  rintro e w3 ⟨rfl, hb3⟩
  have hB3 : Below w.heap.size w w3 := hB2.trans (hb3.mono hB2.size)
  have HA3 := Lib.hid (HA2.out.below hb3)
  clear hb3 c36
  cases h3 : T (sortedP X) with
  | false =>
    have hf : codeX X = 227 := by simp [codeX, H1.out, H2.out, h3]
    have ho : outX X = ⟨#[]⟩ := by simp [outX, hf]
    go_wp2
    go_ret2
    exact ⟨by rw [hf, ho]; rfl, hB3⟩
  | true =>
  have HSO := Lib.hid h3
  have HS1 := Lib.hid (SS.of (HX.out.trackers.keep (Keeps.of_below hB3)))
  have HS2 := Lib.hid (SS.of (HX.out.peers.keep (Keeps.of_below hB3)))
  have c33 := HA3.out.cell 33
  rw [lcells_33 HI.out] at c33
  clear h3
  go_wp2_with fail
  refine (again X.trackers tv w3 HS1.out).mono ?_
  rintro e w3' ⟨rfl, rfl⟩
  cases h3 : T (dupP X.trackers) with
  | true =>
    have hf : codeX X = 225 := by simp [codeX, H1.out, H2.out, HSO.out, h3]
    have ho : outX X = ⟨#[]⟩ := by simp [outX, hf]
    go_wp2
    go_ret2
    exact ⟨by rw [hf, ho]; rfl, hB3⟩
  | false =>
  have H3 := Lib.hid h3
  have c34 := HA3.out.cell 34
  rw [lcells_34 HI.out] at c34
  clear h3 c33
  go_wp2_with fail
  refine (again X.peers pv _ HS2.out).mono ?_
  rintro e w4 ⟨rfl, rfl⟩
  cases h4 : T (dupP X.peers) with
  | true =>
    have hf : codeX X = 225 := by simp [codeX, H1.out, H2.out, HSO.out, H3.out, h4]
    have ho : outX X = ⟨#[]⟩ := by simp [outX, hf]
    go_wp2
    go_ret2
    exact ⟨by rw [hf, ho]; rfl, hB3⟩
  | false =>
  have H4 := Lib.hid h4
  clear h4 c34
  obtain ⟨a3, c3, rfl, hn3, ⟨hcm3, h203, -⟩, ha3⟩ := HX.out.more
  have HPP := Lib.hid ha3
  have c36 := HA3.out.cell 36
  rw [lcells_36 HI.out] at c36
  clear ha3
  go_wp2_with fail
  have hB03 := hB3
  have HA03 := HA3
  go_loopw [33] (fun v7 wr => ∃ k : Nat, k ≤ X.xn ∧ v7 = .int .i64 k ∧ Below w.heap.size w wr ∧ Hid (Lb wr w.heap.size 29 X tv pv ov (.slice a3 X.xn c3)) ∧ Hid (∀ j, j < k → ¬ badJ X j)) (fun v7 _ => X.xn - (intOf v7).toNat)
  case atStart => exact ⟨0, Nat.zero_le _, rfl, hB03, HA03, fun j hj => by omega⟩
  case round =>
    obtain ⟨k, hk, rfl, hB, HA, hno⟩ := hrel
    have hwr := hB.size
    have c36 := HA.out.cell 36
    rw [lcells_36 HI.out] at c36
    have hk0 : (0 : Int) ≤ (k : Int) := by omega
    by_cases hlt : k < X.xn
    · rcases HPP.out with h0 | ⟨B, o, rfl, ha⟩
      · omega
      obtain ⟨cs, hcell, _, hrv⟩ := ha k (by omega)
      replace hcell := hcell.keep (Keeps.of_below hB)
      have htx : ∃ kd i tx a4 n4 c4 a5 n5 c5, cs = [.int .i64 kd, .int .i64 i, .string tx, .slice a4 n4 c4, .slice a5 n5 c5] := by
        cases hx : X.xv k with
        | leaf => rw [hx] at hrv; exact (hrv : False).elim
        | mk kd i t n l m dk dv =>
          rw [hx] at hrv
          obtain ⟨lv, xv, rfl, hts, ⟨a4, c4, rfl, _⟩, ⟨a5, c5, rfl, _⟩⟩ := hrv
          exact ⟨_, _, _, _, _, _, _, _, _, rfl⟩
      obtain ⟨kd, i, tx, a4, n4, c4, a5, n5, c5, rfl⟩ := htx
      have x0 := hcell.cell 0 rfl
      have x1 := hcell.cell 1 rfl
      have x2 := hcell.cell 2 rfl
      have x3 := hcell.cell 3 rfl
      have x4 := hcell.cell 4 rfl
      have x5 := hcell.cell 5 rfl
      simp only [Nat.add_zero] at x0
      have hk1 : (k : Int) < (X.xn : Int) := by omega
      have hblt : B < wr.heap.size := World.block_lt_of_cell? wr _ x0
      have hwlt : w.heap.size < wr.heap.size := HA.out.lt
      have hba : Below wr.heap.size wr (wr.alloc (.cells #[.string (X.xk k), .int .i64 kd, .int .i64 i, .string tx, .slice a4 n4 c4, .slice a5 n5 c5] 51)) := (Below.refl _ _).alloc (Nat.le_refl _) _
      have y0 : (wr.alloc (.cells #[.string (X.xk k), .int .i64 kd, .int .i64 i, .string tx, .slice a4 n4 c4, .slice a5 n5 c5] 51)).cell? ⟨wr.heap.size, 0, none⟩ = some (.string (X.xk k)) := by simp [World.cell?_alloc_new]
      have hbl : wr.heap.size < (wr.alloc (.cells #[.string (X.xk k), .int .i64 kd, .int .i64 i, .string tx, .slice a4 n4 c4, .slice a5 n5 c5] 51)).heap.size := by simp
      obtain ⟨wa, hwa⟩ : ∃ wa, wr.alloc (.cells #[.string (X.xk k), .int .i64 kd, .int .i64 i, .string tx, .slice a4 n4 c4, .slice a5 n5 c5] 51) = wa := ⟨_, rfl⟩
      rw [hwa] at hba y0 hbl
      have z36 := (hba.cell (p := ⟨w.heap.size, 36, none⟩) hwlt).trans c36
      have hBa : Below w.heap.size w wa := hB.trans (hba.mono (by omega))
      have hwla : w.heap.size < wa.drew.heap.size := by have := hba.size; have e : wa.drew.heap.size = wa.heap.size := rfl; omega
      have hbla : B < wa.drew.heap.size := by have := hba.size; have e : wa.drew.heap.size = wa.heap.size := rfl; omega
      have hblx : wr.heap.size < wa.drew.heap.size := hbl
      have HLa : Hid (Lb wa.drew w.heap.size 29 X tv pv ov (.slice (some ⟨B, o, none⟩) X.xn c3)) := HA.out.below hba.drew
      have HAF : Hid (∀ w1, Below wa.drew.heap.size wa.drew w1 → Below w.heap.size w w1 ∧ Hid (Lb w1 w.heap.size 29 X tv pv ov (.slice (some ⟨B, o, none⟩) X.xn c3))) := fun w1 h => ⟨hBa.trans ((below_of_drew h).mono (by omega)), HLa.out.below h⟩
      have hka : ∀ x : Later wa.drew, x.w.cell? ⟨wr.heap.size, 0, none⟩ = some (.string (X.xk k)) := fun x => (x.below.cell (p := ⟨wr.heap.size, 0, none⟩) hblx).trans y0
      have hkb : ∀ x : Later wa.drew, x.w.cell? ⟨w.heap.size, 36, none⟩ = some (.slice (some ⟨B, o, none⟩) X.xn c3) := fun x => (x.below.cell (p := ⟨w.heap.size, 36, none⟩) hwla).trans z36
      have HKK : Hid (∀ w1 : World, Below wa.drew.heap.size wa.drew w1 → w1.cell? ⟨wr.heap.size, 0, none⟩ = some (.string (X.xk k)) ∧ w1.cell? ⟨w.heap.size, 36, none⟩ = some (.slice (some ⟨B, o, none⟩) X.xn c3)) := fun w1 h =>
        ⟨(h.cell (p := ⟨wr.heap.size, 0, none⟩) hblx).trans y0, (h.cell (p := ⟨w.heap.size, 36, none⟩) hwla).trans z36⟩
      by_cases hki : kindI (X.xk k) < 5
      · have hf : codeX X = 225 := by
          have : T (kindsBad X) = true := T_true ⟨k, hlt, Or.inl hki⟩
          simp [codeX, H1.out, H2.out, HSO.out, H3.out, H4.out, this]
        have ho : outX X = ⟨#[]⟩ := by simp [outX, hf]
        have HF := Lib.hid hf
        have HO := Lib.hid ho
        clear ha hcell hrv hf ho hba
        go_wp2_with fail
        clear x0 x1 x2 x3 x4 x5 c36
        refine wp_region_quiet_later (by kernel_rfl) (by kernel_rfl) ?_
        repeat (go_big_quiet_step ((go_at_call 32; exact (rank (X.xk k) _).mono fun e w2 h => ⟨h.1, ⟨⟨w2, (Later.below _).trans (h.2.mono (Later.below _).size)⟩, rfl⟩⟩)))
        refine wpQuiet_nil ?_
        intro w1 hw1
        have hb1 : Below wa.drew.heap.size wa.drew w1 := by obtain ⟨x, hx⟩ := hw1; rw [hx]; exact x.below
        clear hw1
        have hBB := (HAF.out w1 hb1).1
        go_wp2
        go_ret2
        exact ⟨by rw [HF.out, HO.out]; rfl, hBB⟩
      have hk5d : decide (kindI (X.xk k) < 5) = false := decide_eq_false hki
      have hk5f : (kindI (X.xk k) < 5) = False := eq_false hki
      by_cases hz : k = 0
      · subst hz
        simp only [Nat.zero_mul, Nat.add_zero] at x0 x1 x2 x3 x4 x5
        have HKI := Lib.hid hki
        clear ha hcell hrv hba
        go_wp2_with fail
        clear x0 x1 x2 x3 x4 x5 c36
        refine wp_region_quiet_later (by kernel_rfl) (by kernel_rfl) ?_
        repeat (go_big_quiet_step ((go_at_call 32; exact (rank (X.xk 0) _).mono fun e w2 h => ⟨h.1, ⟨⟨w2, (Later.below _).trans (h.2.mono (Later.below _).size)⟩, rfl⟩⟩)))
        refine wpQuiet_nil ?_
        intro w1 hw1
        have hb1 : Below wa.drew.heap.size wa.drew w1 := by obtain ⟨x, hx⟩ := hw1; rw [hx]; exact x.below
        clear hw1
        obtain ⟨hBB, hLL⟩ := HAF.out w1 hb1
        go_wp2
        exact ⟨⟨0 + 1, by omega, by go_num, hBB, hLL, fun j hj => by
          obtain rfl : j = 0 := by omega
          rintro (h | ⟨h, _⟩)
          · have := HKI.out; omega
          · omega⟩, by simp [intOf]; omega⟩
      obtain ⟨q, rfl⟩ : ∃ q, k = q + 1 := ⟨k - 1, by omega⟩
      obtain ⟨cs', hcell', _, hrv'⟩ := ha q (by omega)
      replace hcell' := hcell'.keep (Keeps.of_below hB)
      have v0 := hcell'.cell 0 rfl
      simp only [Nat.add_zero] at v0
      have v1 := (hba.cell (p := ⟨B, o + q * 6, none⟩) hblt).trans v0
      have hkc : ∀ x : Later wa.drew, x.w.cell? ⟨B, o + q * 6, none⟩ = some (.string (X.xk q)) := fun x => (x.below.cell (p := ⟨B, o + q * 6, none⟩) hbla).trans v1
      have HKQ : Hid (∀ w1 : World, Below wa.drew.heap.size wa.drew w1 → w1.cell? ⟨wr.heap.size, 0, none⟩ = some (.string (X.xk (q + 1))) ∧ w1.cell? ⟨w.heap.size, 36, none⟩ = some (.slice (some ⟨B, o, none⟩) X.xn c3) ∧ w1.cell? ⟨B, o + q * 6, none⟩ = some (.string (X.xk q))) := fun w1 h =>
        ⟨(HKK.out w1 h).1, (HKK.out w1 h).2, (h.cell (p := ⟨B, o + q * 6, none⟩) hbla).trans v1⟩
      clear ha hcell hrv hcell' hrv' hba v0
      have e1 : IntKind.i64.wrap (((q + 1 : Nat) : Int) - 1) = (q : Int) := by rw [IntWalk.i64_in _ (by omega)]; omega
      have hk2 : (0 : Int) ≤ (q : Int) := by omega
      have hk3 : (q : Int) < (X.xn : Int) := by omega
      have hk4 : (0 : Int) ≤ (q : Int) + 1 := by omega
      have hk5 : (q : Int) + 1 < (X.xn : Int) := by omega
      have hk6 : ((q : Int) + 1).toNat = q + 1 := by omega
      have hk7 : (0 : Int) < (q : Int) + 1 := by omega
      have hk8 : (0 : Int) < ((q + 1 : Nat) : Int) := by omega
      have e2 : IntKind.i64.wrap ((q : Int) + 1 - 1) = (q : Int) := by rw [IntWalk.i64_in _ (by omega)]; omega
      have e3 : IntKind.i64.wrap (q : Int) = (q : Int) := IntWalk.i64_in _ (by omega)
      have hse := str_beq (X.xk (q + 1)) (X.xk q)
      by_cases hs : X.xk (q + 1) = X.xk q
      · have hf : codeX X = 225 := by
          have : T (kindsBad X) = true := T_true ⟨q + 1, hlt, Or.inr ⟨by omega, by simpa using hs⟩⟩
          simp [codeX, H1.out, H2.out, HSO.out, H3.out, H4.out, this]
        have ho : outX X = ⟨#[]⟩ := by simp [outX, hf]
        have HF := Lib.hid hf
        have HO := Lib.hid ho
        rw [decide_eq_true hs] at hse
        clear hs hf ho
        go_wp2_with fail
        clear x0 x1 x2 x3 x4 x5 c36
        refine wp_region_quiet_later (by kernel_rfl) (by kernel_rfl) ?_
        repeat (go_big_quiet_step ((go_at_call 32; exact (rank (X.xk (q + 1)) _).mono fun e w2 h => ⟨h.1, ⟨⟨w2, (Later.below _).trans (h.2.mono (Later.below _).size)⟩, rfl⟩⟩)))
        refine wpQuiet_nil ?_
        intro w1 hw1
        have hb1 : Below wa.drew.heap.size wa.drew w1 := by obtain ⟨x, hx⟩ := hw1; rw [hx]; exact x.below
        clear hw1
        have hBB := (HAF.out w1 hb1).1
        go_wp2
        go_ret2
        exact ⟨by rw [HF.out, HO.out]; rfl, hBB⟩
      · rw [decide_eq_false hs] at hse
        have HS := Lib.hid hs
        have HKI := Lib.hid hki
        clear hs
        go_wp2_with fail
        clear x0 x1 x2 x3 x4 x5 c36
        refine wp_region_quiet_later (by kernel_rfl) (by kernel_rfl) ?_
        repeat (go_big_quiet_step ((go_at_call 32; exact (rank (X.xk (q + 1)) _).mono fun e w2 h => ⟨h.1, ⟨⟨w2, (Later.below _).trans (h.2.mono (Later.below _).size)⟩, rfl⟩⟩)))
        refine wpQuiet_nil ?_
        intro w1 hw1
        have hb1 : Below wa.drew.heap.size wa.drew w1 := by obtain ⟨x, hx⟩ := hw1; rw [hx]; exact x.below
        clear hw1
        obtain ⟨hBB, hLL⟩ := HAF.out w1 hb1
        go_wp2
        exact ⟨⟨q + 1 + 1, by omega, by go_num, hBB, hLL, fun j hj => by
          by_cases e : j = q + 1
          · subst e
            rintro (h | ⟨_, h⟩)
            · have := HKI.out; omega
            · exact HS.out (by simpa using h)
          · exact hno.out j (by omega)⟩, by simp [intOf]; omega⟩
    · have hkb : T (kindsBad X) = false := T_false (by rintro ⟨j, hj, hb⟩; exact hno.out j (by omega) hb)
      have HKB := Lib.hid hkb
      have hk2 : (X.xn : Int) ≤ (k : Int) := by omega
      clear hkb
      go_wp2_with (refine wpList_load_row rfl 29 _ rfl w.heap.size rfl 29 (lcells X tv pv ov (.slice a3 X.xn c3)).toArray (0, 0) _ HA.out Tryz.underlying29 rfl HSL.out ?_)
      refine (written ok X tv pv ov (.slice a3 X.xn c3) wr (HX.out.keep (Keeps.of_below hB)) HWH.out (HPT.out.keep hB)).mono ?_
      rintro e w5 ⟨rfl, hb5⟩
      have hB5 : Below w.heap.size w w5 := hB.trans (hb5.mono hwr)
      have hln : (⟨(textL X).toArray⟩ : ByteArray).size = (textL X).length := by simp [ByteArray.size]
      by_cases hlen : 4096 < (textL X).length
      · have hf : codeX X = 221 := by simp [codeX, H1.out, H2.out, HSO.out, H3.out, H4.out, HKB.out, hlen]
        have ho : outX X = ⟨#[]⟩ := by simp [outX, hf]
        have hl2 : (4096 : Int) < ((textL X).length : Int) := by omega
        go_wp2
        go_ret2
        exact ⟨by rw [hf, ho]; rfl, hB5⟩
      · have hf : codeX X = 0 := by simp [codeX, H1.out, H2.out, HSO.out, H3.out, H4.out, HKB.out, hlen]
        have ho : outX X = ⟨(textL X).toArray⟩ := by simp [outX, hf]
        have hl2 : ¬ (4096 : Int) < ((textL X).length : Int) := by omega
        go_wp2
        go_ret2
        exact ⟨by rw [hf, ho]; rfl, hB5⟩

end Go.Proofs.YtdfiblaboddbjaaGreatDoor.Has
