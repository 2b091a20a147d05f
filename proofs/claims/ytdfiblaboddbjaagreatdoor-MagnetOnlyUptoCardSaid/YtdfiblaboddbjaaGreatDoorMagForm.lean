import Derived.Test.YtdfiblaboddbjaaGreatDoorMagOrd
namespace Go.Proofs.YtdfiblaboddbjaaGreatDoor.Has
open Go.RowKit Go.Proofs.YtdfiblaboddbjaaGreatDoor.Base Go.Proofs.YtdfiblaboddbjaaGreatDoor.Rep
set_option linter.unusedVariables false
set_option linter.unusedSimpArgs false

def okV : V → Prop 
  | .mk k i _ n _ m _ _ => k = 2 ∧ i = 0 ∧ n = 0 ∧ m = 0
  | .leaf => False
def textV : V → ByteArray 
  | .mk _ _ s _ _ _ _ _ => s
  | .leaf => ⟨#[]⟩
def formP (X : Lk) : Prop := hasB X.trackers ⟨#[]⟩ = false ∧ hasB X.peers ⟨#[]⟩ = false ∧ whole X.only ∧ ∀ j, j < X.xn → X.xk j ≠ ⟨#[]⟩ ∧ okV (X.xv j)

set_option maxHeartbeats 1000000 in
set_option maxRecDepth 100000 in
/-- a text with nothing else -/
theorem check2 (i : Int) (s : ByteArray) (a a' : Option Addr) (n n' c c' : Nat) (hn : n ≤ 1048576) (hn' : n' ≤ 1048576) (w : World) :
    Calls Tryz.prog 68 #[.agg #[.int .i64 2, .int .i64 i, .string s, .slice a n c, .slice a' n' c'], .int .i64 0] w fun e w' => e = .returned (.int .i64 (if i = 0 ∧ n = 0 ∧ n' = 0 then 0 else 27)) ∧ Below w.heap.size w w' := by
  go_enter Tryz.func68, Tryz.ntmps68
  by_cases hi : i = 0
  · subst hi
    by_cases hz : n + n' = 0
    · obtain rfl : n = 0 := by omega
      obtain rfl : n' = 0 := by omega
      go_wp2
      go_loop [55] (fun v => v = .int .i64 0) (fun _ => 0)
      case atStart => rfl
      case round =>
        subst hrel
        go_wp2
        go_loop [70] (fun v => v = .int .i64 0) (fun _ => 0)
        case atStart => rfl
        case round =>
          subst hrel
          go_wp2
          go_ret
          refine ⟨rfl, ?_⟩
          have h0 : Below w.heap.size w (w.alloc (.cells #[.int .i64 2, .int .i64 0, .string s, .slice a 0 c, .slice a' 0 c'] 49)) := (Below.refl _ _).alloc (Nat.le_refl _) _
          exact (h0.alloc (by simp) _)
    · have h0 : (0 : Int) < (n : Int) + (n' : Int) := by omega
      have hf : (if (0 : Int) = 0 ∧ n = 0 ∧ n' = 0 then (0 : Int) else 27) = 27 := if_neg (by omega)
      go_wp2
      go_ret
      exact ⟨by first | rfl | (rw [hf]; rfl), ((Below.refl _ _).alloc (Nat.le_refl _) _).alloc (by simp) _⟩
  · have hf : (if i = 0 ∧ n = 0 ∧ n' = 0 then (0 : Int) else 27) = 27 := if_neg (fun h => hi h.1)
    go_wp2
    go_ret
    exact ⟨by first | rfl | (rw [hf]; rfl), ((Below.refl _ _).alloc (Nat.le_refl _) _).alloc (by simp) _⟩

set_option maxHeartbeats 1000000 in
set_option maxRecDepth 100000 in
theorem valid2 (i : Int) (s : ByteArray) (a a' : Option Addr) (n n' c c' : Nat) (hn : n ≤ 1048576) (hn' : n' ≤ 1048576) (w : World) :
    Calls Tryz.prog 49 #[.agg #[.int .i64 2, .int .i64 i, .string s, .slice a n c, .slice a' n' c']] w fun e w' => e = .returned (.int .i64 (if i = 0 ∧ n = 0 ∧ n' = 0 then 0 else 27)) ∧ Below w.heap.size w w' := by
  have hc := check2 i s a a' n n' c c' hn hn'
  generalize (if i = 0 ∧ n = 0 ∧ n' = 0 then (0 : Int) else 27) = z at hc ⊢
  have HC := Lib.hid hc
  clear hc
  go_enter Tryz.func49, Tryz.ntmps49
  go_wp2_with fail
  refine (HC.out _).mono ?_
  rintro e w1 ⟨rfl, hb⟩
  go_wp2
  go_ret
  exact ⟨rfl, ((Below.refl _ _).alloc (Nat.le_refl _) _).trans (hb.mono (by simp))⟩

theorem okV_iff (k i : Int) (s : ByteArray) (n : Nat) (l : Nat → V) (m : Nat) (dk : Nat → ByteArray) (dv : Nat → V) : okV (.mk k i s n l m dk dv) ↔ k = 2 ∧ i = 0 ∧ n = 0 ∧ m = 0 := Iff.rfl

set_option maxHeartbeats 2000000 in
set_option maxRecDepth 100000 in
theorem wellFormed (ok : Nat → Prop) (X : Lk) (tv pv ov mv : Value) (w : World) (hX : RL w ok X tv pv ov mv) :
    Calls Tryz.prog 26 #[.agg (lcells X tv pv ov mv).toArray] w fun e w' => e = .returned (.bool (T (formP X))) ∧ Below w.heap.size w w' := by
  have hi := hX.info
  have hB0 : Below w.heap.size w (w.alloc (.cells (lcells X tv pv ov mv).toArray 29)) := (Below.refl _ _).alloc (Nat.le_refl _) _
  have hA : Lb (w.alloc (.cells (lcells X tv pv ov mv).toArray 29)) w.heap.size 29 X tv pv ov mv := heap_alloc_new w _
  obtain ⟨W0, hW0⟩ : ∃ W0, w.alloc (.cells (lcells X tv pv ov mv).toArray 29) = W0 := ⟨_, rfl⟩
  rw [hW0] at hB0 hA
  have c33 := hA.cell 33
  have c34 := hA.cell 34
  have c35 := hA.cell 35
  have c36 := hA.cell 36
  rw [lcells_33 hi] at c33
  rw [lcells_34 hi] at c34
  rw [lcells_35 hi] at c35
  rw [lcells_36 hi] at c36
  have HA := Lib.hid hA
  have HI := Lib.hid hi
  have HX := Lib.hid hX
  have hS1 := SS.of (RS.keep hX.trackers (Keeps.of_below hB0))
  have hS2 := SS.of (RS.keep hX.peers (Keeps.of_below hB0))
  obtain ⟨a, c, rfl, hn, ⟨hcm, hn20, -⟩, ha⟩ := hX.only
  obtain ⟨a', c', rfl, hn', ⟨hcm', hn20', -⟩, ha'⟩ := hX.more
  have HO := Lib.hid ha
  have HP := Lib.hid ha'
  clear ha ha' hX hA hi
  go_enter Tryz.func26, Tryz.ntmps26
  go_wp2_with fail
  refine (contains X.trackers ⟨#[]⟩ tv W0 hS1).mono ?_
  rintro e w' ⟨rfl, rfl⟩
  cases h1 : hasB X.trackers ⟨#[]⟩ with
  | true =>
    have hf : T (formP X) = false := T_false (fun h => by rw [h.1] at h1; cases h1)
    go_wp2
    go_ret
    exact ⟨by first | rfl | (rw [hf]; rfl), hB0⟩
  | false =>
  go_wp2_with fail
  refine (contains X.peers ⟨#[]⟩ pv w' hS2).mono ?_
  rintro e W0 ⟨rfl, rfl⟩
  cases h2 : hasB X.peers ⟨#[]⟩ with
  | true =>
    have hf : T (formP X) = false := T_false (fun h => by rw [h.2.1] at h2; cases h2)
    go_wp2
    go_ret
    exact ⟨by first | rfl | (rw [hf]; rfl), hB0⟩
  | false =>
  go_wp2_with fail
  clear c33 c34 c35 c36 hS1 hS2
  go_loopw [18] (fun v5 wr => ∃ k : Nat, k ≤ X.only.length ∧ v5 = .int .i64 k ∧ Below w.heap.size w wr ∧ Hid (Lb wr w.heap.size 29 X tv pv (.slice a X.only.length c) (.slice a' X.xn c')) ∧ Hid (∀ j (hj : j < k) (hj' : j < X.only.length), 0 ≤ X.only[j].1 ∧ X.only[j].1 < 4096 ∧ 1 ≤ X.only[j].2 ∧ X.only[j].2 ≤ 4096 - X.only[j].1)) (fun v5 _ => X.only.length - (intOf v5).toNat)
  case atStart => exact ⟨0, Nat.zero_le _, rfl, hB0, HA, fun j hj => by omega⟩
  case round =>
    obtain ⟨k, hk, rfl, hB, HA, hno⟩ := hrel
    have hwr := hB.size
    have c35 := HA.out.cell 35
    rw [lcells_35 HI.out] at c35
    by_cases hlt : k < X.only.length
    · rcases HO.out with h0 | ⟨B, o, rfl, ha⟩
      · omega
      · have hcl := (ha k X.only[k] (by simp [hlt])).1.keep (Keeps.of_below hB)
        have x0 := hcl.cell 0 rfl
        have x1 := hcl.cell 1 rfl
        simp only [Nat.add_zero] at x0 x1
        clear ha hcl
        have hk0 : (0 : Int) ≤ (k : Int) := by omega
        have hk1 : (k : Int) < (X.only.length : Int) := by omega
        obtain ⟨p, hp⟩ : ∃ p, X.only[k].1 = p := ⟨_, rfl⟩
        obtain ⟨q, hq⟩ : ∃ q, X.only[k].2 = q := ⟨_, rfl⟩
        rw [hp] at x0
        rw [hq] at x1
        by_cases hgood : 0 ≤ p ∧ p < 4096 ∧ 1 ≤ q ∧ q ≤ 4096 - p
        · obtain ⟨g1, g2, g3, g4⟩ := hgood
          have HPQ := Lib.hid (And.intro hp hq)
          clear hp hq
          go_wp2
          exact ⟨⟨k + 1, by omega, by go_num, hB.alloc hwr _, HA.out.below ((Below.refl _ _).alloc (Nat.le_refl _) _), fun j hj hj' => by
            by_cases e : j = k
            · subst e; rw [HPQ.out.1, HPQ.out.2]; exact ⟨g1, g2, g3, g4⟩
            · exact hno.out j (by omega) hj'⟩, by simp [intOf]; omega⟩
        · have hf : T (formP X) = false := T_false (fun h => by
            have := h.2.2.1 k hlt
            rw [hp, hq] at this
            exact hgood this)
          clear hp hq
          by_cases g1 : p < 0
          · clear hgood
            go_wp2
            go_ret
            exact ⟨by first | rfl | (rw [hf]; rfl), hB.alloc hwr _⟩
          by_cases g2 : q < 1
          · clear hgood
            go_wp2
            go_ret
            exact ⟨by first | rfl | (rw [hf]; rfl), hB.alloc hwr _⟩
          by_cases g3 : 4096 ≤ p
          · clear hgood
            go_wp2
            go_ret
            exact ⟨by first | rfl | (rw [hf]; rfl), hB.alloc hwr _⟩
          have g4 : 4096 - p < q := by omega
          have g1' : 0 ≤ p := by omega
          have g3' : p < 4096 := by omega
          have g2' : 1 ≤ q := by omega
          clear hgood g1 g2 g3
          go_wp2
          go_ret
          exact ⟨by first | rfl | (rw [hf]; rfl), hB.alloc hwr _⟩
    · have hwh : Hid (whole X.only) := fun i hi => hno.out i (by omega) hi
      clear hno hk
      have c36 := HA.out.cell 36
      rw [lcells_36 HI.out] at c36
      go_wp2_with fail
      clear c35 c36
      go_loopw [47] (fun v5 wr => ∃ k : Nat, k ≤ X.xn ∧ v5 = .int .i64 k ∧ Below w.heap.size w wr ∧ Hid (Lb wr w.heap.size 29 X tv pv (.slice a X.only.length c) (.slice a' X.xn c')) ∧ Hid (∀ j, j < k → X.xk j ≠ ⟨#[]⟩ ∧ okV (X.xv j))) (fun v5 _ => X.xn - (intOf v5).toNat)
      case atStart => exact ⟨0, Nat.zero_le _, rfl, hB, HA, fun j hj => by omega⟩
      case round =>
        obtain ⟨k, hk, rfl, hB, HA, hno⟩ := hrel
        have hwr := hB.size
        have c36 := HA.out.cell 36
        rw [lcells_36 HI.out] at c36
        by_cases hlt : k < X.xn
        · rcases HP.out with h0 | ⟨B, o, rfl, ha⟩
          · omega
          · obtain ⟨cs, hcell, hsz, hrv⟩ := ha k hlt
            have hcl := hcell.keep (Keeps.of_below hB)
            obtain ⟨xs, hxs⟩ : ∃ xs, X.xk k = xs := ⟨_, rfl⟩
            obtain ⟨xx, hxx⟩ : ∃ xx, X.xv k = xx := ⟨_, rfl⟩
            rw [hxs] at hcl
            rw [hxx] at hrv
            cases xx with
            | leaf => exact (hrv : False).elim
            | mk kd i s n l m dk dv =>
            obtain ⟨lv, xv, rfl, _, ⟨a1, c1, rfl, hn1, ⟨_, hn120, _⟩, _⟩, ⟨a2, c2, rfl, hn2, ⟨_, hn220, _⟩, _⟩⟩ := hrv
            have x0 := hcl.cell 0 rfl
            have x1 := hcl.cell 1 rfl
            have x2 := hcl.cell 2 rfl
            have x3 := hcl.cell 3 rfl
            have x4 := hcl.cell 4 rfl
            have x5 := hcl.cell 5 rfl
            simp only [Nat.add_zero] at x0
            have hblt : B < wr.heap.size := World.block_lt_of_cell? wr _ x0
            have hwlt : w.heap.size < wr.heap.size := HA.out.lt
            have c36a : ∀ ob, (wr.alloc ob).cell? ⟨w.heap.size, 36, none⟩ = some (.slice (some ⟨B, o, none⟩) X.xn c') := fun ob => (cell_alloc_lt wr ob _ hwlt).trans c36
            have x0a : ∀ ob, (wr.alloc ob).cell? ⟨B, o + k * 6, none⟩ = some (.string xs) := fun ob => (cell_alloc_lt wr ob _ hblt).trans x0
            have y1 : wr.cell? ⟨B, o + k * 6 + 1 + 1, none⟩ = _ := x2
            have y2 : wr.cell? ⟨B, o + k * 6 + 1 + 2, none⟩ = _ := x3
            have y3 : wr.cell? ⟨B, o + k * 6 + 1 + 3, none⟩ = _ := x4
            have y4 : wr.cell? ⟨B, o + k * 6 + 1 + 4, none⟩ = _ := x5
            clear ha hcl hcell hsz
            have hk0 : (0 : Int) ≤ (k : Int) := by omega
            have hk1 : (k : Int) < (X.xn : Int) := by omega
            have hse : (xs.toList == []) = decide (xs = ⟨#[]⟩) := by rw [← str_beq, Lib.toList_data ⟨#[]⟩]
            by_cases hgood : xs ≠ ⟨#[]⟩ ∧ kd = 2 ∧ i = 0 ∧ n = 0 ∧ m = 0
            · have HG : Hid (X.xk k ≠ ⟨#[]⟩ ∧ okV (X.xv k)) := ⟨by rw [hxs]; exact hgood.1, by rw [hxx]; exact hgood.2⟩
              obtain ⟨g1, rfl, rfl, rfl, rfl⟩ := hgood
              rw [decide_eq_false g1] at hse
              clear hxs hxx g1
              go_wp2_with fail
              refine (valid2 0 s a1 a2 0 0 c1 c2 (by omega) (by omega) _).mono ?_
              rintro e w1 ⟨rfl, hb1⟩
              simp only [and_self, if_true]
              go_wp2
              have hb1' : Below wr.heap.size wr w1 := ((Below.refl _ _).alloc (Nat.le_refl _) _).trans (hb1.mono (by simp))
              exact ⟨⟨k + 1, by omega, by go_num, hB.trans (hb1'.mono hwr), HA.out.below hb1', fun j hj => by
                by_cases e : j = k
                · subst e; exact HG.out
                · exact hno.out j (by omega)⟩, by simp [intOf]; omega⟩
            · have hf : T (formP X) = false := T_false (fun h => by
                have := h.2.2.2 k hlt
                rw [hxs, hxx] at this
                exact hgood ⟨this.1, this.2⟩)
              clear hxs hxx
              by_cases g1 : xs = ⟨#[]⟩
              · rw [decide_eq_true g1] at hse
                clear hgood g1
                go_wp2
                go_ret
                exact ⟨by first | rfl | (rw [hf]; rfl), hB.alloc hwr _⟩
              rw [decide_eq_false g1] at hse
              by_cases g2 : kd = 2
              rotate_left
              · clear hgood g1
                go_wp2
                go_ret
                exact ⟨by first | rfl | (rw [hf]; rfl), hB.alloc hwr _⟩
              subst g2
              have hif : (if i = 0 ∧ n = 0 ∧ m = 0 then (0 : Int) else 27) = 27 := if_neg (fun h => hgood ⟨g1, rfl, h⟩)
              clear hgood g1
              go_wp2_with fail
              refine (valid2 i s a1 a2 n m c1 c2 (by omega) (by omega) _).mono ?_
              rintro e w1 ⟨rfl, hb1⟩
              rw [hif]
              have hb1' : Below wr.heap.size wr w1 := ((Below.refl _ _).alloc (Nat.le_refl _) _).trans (hb1.mono (by simp))
              go_wp2
              go_ret
              exact ⟨by first | rfl | (rw [hf]; rfl), hB.trans (hb1'.mono hwr)⟩
        · have hf : T (formP X) = true := T_true ⟨h1, h2, hwh.out, fun j hj => hno.out j (by omega)⟩
          go_wp2
          go_ret
          exact ⟨by first | rfl | (rw [hf]; rfl), hB⟩

end Go.Proofs.YtdfiblaboddbjaaGreatDoor.Has
