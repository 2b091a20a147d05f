import Derived.Test.YtdfiblaboddbjaaGreatDoorMagForm
namespace Go.Proofs.YtdfiblaboddbjaaGreatDoor.Has
open Go.RowKit Go.Proofs.YtdfiblaboddbjaaGreatDoor.Base Go.Proofs.YtdfiblaboddbjaaGreatDoor.Rep
set_option linter.unusedVariables false
set_option linter.unusedSimpArgs false

theorem cmp_less : ∀ (x y : List UInt8), decide (Lib.compareBytes x y < 0) = Op.bytesLess x y
  | [], [] => by simp [Lib.compareBytes, Op.bytesLess]
  | [], _ :: _ => by simp [Lib.compareBytes, Op.bytesLess]
  | _ :: _, [] => by simp [Lib.compareBytes, Op.bytesLess]
  | a :: x, b :: y => by
    rw [Lib.compareBytes, Op.bytesLess, ← cmp_less x y]
    by_cases h1 : a < b
    · simp [h1]
    · by_cases h2 : b < a
      · have : ¬ a = b := fun e => by subst e; exact h1 h2
        simp [h1, h2, this]
      · have : a = b := UInt8.le_antisymm (UInt8.not_lt.1 h2) (UInt8.not_lt.1 h1)
        simp [h1, h2, this]

def lessB (a b : ByteArray) : Bool := Op.bytesLess a.toList b.toList
theorem cmp_lessB (a b : ByteArray) : Lib.compareBytes a.data.toList b.data.toList < 0 ↔ lessB a b = true := by
  have := cmp_less a.data.toList b.data.toList
  rw [lessB, Lib.toList_data, Lib.toList_data, ← this]
  simp

/-- The keys do not fall. -/
def sortedP (X : Lk) : Prop := ∀ j, j + 1 < X.xn → lessB (X.xk (j + 1)) (X.xk j) = false

set_option maxHeartbeats 1000000 in
set_option maxRecDepth 100000 in
theorem cmpPair (k k' : ByteArray) (x0 x1 x2 x3 x4 y0 y1 y2 y3 y4 : Value) (w : World) :
    Calls Tryz.prog 27 #[.agg #[.string k, x0, x1, x2, x3, x4], .agg #[.string k', y0, y1, y2, y3, y4]] w fun e w' => e = .returned (.int .i64 (Lib.compareBytes k.data.toList k'.data.toList)) ∧ Below w.heap.size w w' := by
  go_enter Tryz.func27, Tryz.ntmps27
  go_wp2_with fail
  refine (Tryz.strings_Compare k k' _).mono ?_
  rintro e w1 ⟨rfl, rfl⟩
  go_wp2
  go_ret
  exact ⟨rfl, ((Below.refl _ _).alloc (Nat.le_refl _) _).alloc (by simp) _⟩

set_option maxHeartbeats 2000000 in
set_option maxRecDepth 100000 in
theorem isSorted (ok : Nat → Prop) (X : Lk) (v : Value) (w : World) (hl : RP w ok X.xn X.xk X.xv v) :
    Calls Tryz.prog 30 #[v, .func (.func 27) #[] #[]] w fun e w' => e = .returned (.bool (T (sortedP X))) ∧ Below w.heap.size w w' := by
  obtain ⟨a, c, rfl, hn, ⟨hcm, hn20, -⟩, ha⟩ := hl
  have HA := Lib.hid ha
  clear ha
  go_enter Tryz.func30, Tryz.ntmps30
  go_wp2
  go_loopw [5] (fun v5 wr => ∃ (k : Nat) (z : Int), k ≤ X.xn ∧ z = (k : Int) - 1 ∧ v5 = .int .i64 z ∧ Below w.heap.size w wr ∧ Hid (∀ j, k ≤ j + 1 → j + 1 < X.xn → lessB (X.xk (j + 1)) (X.xk j) = false)) (fun v5 _ => (intOf v5 + 1).toNat)
  case atStart => exact ⟨X.xn, _, Nat.le_refl _, rfl, rfl, Below.refl _ _, fun j h1 h2 => by omega⟩
  case round =>
    obtain ⟨k, z, hk, hz, rfl, hB, hno⟩ := hrel
    have hwr := hB.size
    by_cases hlt : 2 ≤ k
    · obtain ⟨q, rfl⟩ : ∃ q, k = q + 2 := ⟨k - 2, by omega⟩
      obtain rfl : z = ((q + 1 : Nat) : Int) := by omega
      clear hz
      rcases HA.out with h0 | ⟨B, o, rfl, ha⟩
      · omega
      · obtain ⟨cs, hcell, _, hrv⟩ := ha (q + 1) (by omega)
        obtain ⟨cs', hcell', _, hrv'⟩ := ha q (by omega)
        replace hcell := hcell.keep (Keeps.of_below hB)
        replace hcell' := hcell'.keep (Keeps.of_below hB)
        obtain ⟨x1, x2, x3, x4, x5, rfl⟩ := list5 hrv.length
        obtain ⟨y1, y2, y3, y4, y5, rfl⟩ := list5 hrv'.length
        have fx0 := hcell.cell 0 rfl
        have fx1 := hcell.cell 1 rfl
        have fx2 := hcell.cell 2 rfl
        have fx3 := hcell.cell 3 rfl
        have fx4 := hcell.cell 4 rfl
        have fx5 := hcell.cell 5 rfl
        have fy0 := hcell'.cell 0 rfl
        have fy1 := hcell'.cell 1 rfl
        have fy2 := hcell'.cell 2 rfl
        have fy3 := hcell'.cell 3 rfl
        have fy4 := hcell'.cell 4 rfl
        have fy5 := hcell'.cell 5 rfl
        simp only [Nat.add_zero] at fx0 fy0
        clear ha hcell hcell' hrv hrv'
        have hBl : B < wr.drew.heap.size := World.block_lt_of_cell? wr _ fx0
        have HKK : Hid (∀ w1 : World, Below wr.drew.heap.size wr.drew w1 → w1.cell? ⟨B, o + (q + 1) * 6, none⟩ = some (.string (X.xk (q + 1))) ∧ w1.cell? ⟨B, o + (q + 1) * 6 + 1, none⟩ = some x1 ∧ w1.cell? ⟨B, o + (q + 1) * 6 + 2, none⟩ = some x2 ∧ w1.cell? ⟨B, o + (q + 1) * 6 + 3, none⟩ = some x3 ∧ w1.cell? ⟨B, o + (q + 1) * 6 + 4, none⟩ = some x4 ∧ w1.cell? ⟨B, o + (q + 1) * 6 + 5, none⟩ = some x5 ∧ w1.cell? ⟨B, o + q * 6, none⟩ = some (.string (X.xk q)) ∧ w1.cell? ⟨B, o + q * 6 + 1, none⟩ = some y1 ∧ w1.cell? ⟨B, o + q * 6 + 2, none⟩ = some y2 ∧ w1.cell? ⟨B, o + q * 6 + 3, none⟩ = some y3 ∧ w1.cell? ⟨B, o + q * 6 + 4, none⟩ = some y4 ∧ w1.cell? ⟨B, o + q * 6 + 5, none⟩ = some y5) := fun w1 h => ⟨(h.cell (p := ⟨B, o + (q + 1) * 6, none⟩) hBl).trans fx0, (h.cell (p := ⟨B, o + (q + 1) * 6 + 1, none⟩) hBl).trans fx1, (h.cell (p := ⟨B, o + (q + 1) * 6 + 2, none⟩) hBl).trans fx2, (h.cell (p := ⟨B, o + (q + 1) * 6 + 3, none⟩) hBl).trans fx3, (h.cell (p := ⟨B, o + (q + 1) * 6 + 4, none⟩) hBl).trans fx4, (h.cell (p := ⟨B, o + (q + 1) * 6 + 5, none⟩) hBl).trans fx5, (h.cell (p := ⟨B, o + q * 6, none⟩) hBl).trans fy0, (h.cell (p := ⟨B, o + q * 6 + 1, none⟩) hBl).trans fy1, (h.cell (p := ⟨B, o + q * 6 + 2, none⟩) hBl).trans fy2, (h.cell (p := ⟨B, o + q * 6 + 3, none⟩) hBl).trans fy3, (h.cell (p := ⟨B, o + q * 6 + 4, none⟩) hBl).trans fy4, (h.cell (p := ⟨B, o + q * 6 + 5, none⟩) hBl).trans fy5⟩
        have e1 : IntKind.i64.wrap (((q + 1 : Nat) : Int) - 1) = (q : Int) := by rw [IntWalk.i64_in _ (by omega)]; omega
        have hk0 : (0 : Int) ≤ ((q + 1 : Nat) : Int) := by omega
        have hk1 : ((q + 1 : Nat) : Int) < (X.xn : Int) := by omega
        have hk2 : (0 : Int) ≤ (q : Int) := by omega
        have hk3 : (q : Int) < (X.xn : Int) := by omega
        have hk4 : (0 : Int) ≤ (q : Int) + 1 := by omega
        have hk5 : (q : Int) + 1 < (X.xn : Int) := by omega
        have hk6 : ((q : Int) + 1).toNat = q + 1 := by omega
        have e2 : IntKind.i64.wrap ((q : Int) + 1 - 1) = (q : Int) := by rw [IntWalk.i64_in _ (by omega)]; omega
        have e3 : IntKind.i64.wrap (q : Int) = (q : Int) := IntWalk.i64_in _ (by omega)
        have hcmp := cmp_lessB (X.xk (q + 1)) (X.xk q)
        have HCM := Lib.hid hcmp
        clear hcmp hBl
        go_wp2_with fail
        go_region_held3 (fun w' => w'.cell? ⟨B, o + (q + 1) * 6, none⟩ = some (.string (X.xk (q + 1))) ∧ w'.cell? ⟨B, o + (q + 1) * 6 + 1, none⟩ = some x1 ∧ w'.cell? ⟨B, o + (q + 1) * 6 + 2, none⟩ = some x2 ∧ w'.cell? ⟨B, o + (q + 1) * 6 + 3, none⟩ = some x3 ∧ w'.cell? ⟨B, o + (q + 1) * 6 + 4, none⟩ = some x4 ∧ w'.cell? ⟨B, o + (q + 1) * 6 + 5, none⟩ = some x5 ∧ w'.cell? ⟨B, o + q * 6, none⟩ = some (.string (X.xk q)) ∧ w'.cell? ⟨B, o + q * 6 + 1, none⟩ = some y1 ∧ w'.cell? ⟨B, o + q * 6 + 2, none⟩ = some y2 ∧ w'.cell? ⟨B, o + q * 6 + 3, none⟩ = some y3 ∧ w'.cell? ⟨B, o + q * 6 + 4, none⟩ = some y4 ∧ w'.cell? ⟨B, o + q * 6 + 5, none⟩ = some y5)
          (first | go_keep | (with_reducible exact HKK.out _ hb1))
          ((go_at_call 27; refine (cmpPair (X.xk (q + 1)) (X.xk q) x1 x2 x3 x4 x5 y1 y2 y3 y4 y5 wr.drew).mono ?_; rintro e w1 ⟨rfl, hb1⟩))
        clear HKK fx0 fx1 fx2 fx3 fx4 fx5 fy0 fy1 fy2 fy3 fy4 fy5
        have hBw : Below w.heap.size w w1 := hB.drew.trans (hb1.mono (by simp; omega))
        cases hl : lessB (X.xk (q + 1)) (X.xk q) with
        | true =>
          have hlt : Lib.compareBytes (X.xk (q + 1)).data.toList (X.xk q).data.toList < 0 := HCM.out.2 hl
          have hf : T (sortedP X) = false := T_false (fun h => by rw [h q (by omega)] at hl; cases hl)
          go_wp2
          go_ret
          exact ⟨by first | rfl | (rw [hf]; rfl), hBw⟩
        | false =>
          have hlt : ¬ Lib.compareBytes (X.xk (q + 1)).data.toList (X.xk q).data.toList < 0 := fun h => by rw [HCM.out.1 h] at hl; cases hl
          go_wp2
          refine ⟨⟨q + 1, _, by omega, ?_, rfl, hBw, fun j h1 h2 => ?_⟩, by simp [intOf]; omega⟩
          · omega
          · by_cases e : j = q
            · subst e; exact hl
            · exact hno.out j (by omega) h2
    · have hf : T (sortedP X) = true := T_true (fun j hj => hno.out j (by omega) hj)
      have hz' : ¬ 0 < z := by omega
      go_wp2
      go_ret
      exact ⟨by first | rfl | (rw [hf]; rfl), hB⟩

end Go.Proofs.YtdfiblaboddbjaaGreatDoor.Has
