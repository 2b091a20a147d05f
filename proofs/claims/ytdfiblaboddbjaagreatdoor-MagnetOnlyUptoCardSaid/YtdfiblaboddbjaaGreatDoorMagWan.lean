/-
  The program's Wanted.
-/
import Derived.Test.YtdfiblaboddbjaaGreatDoorMagAwk
import Derived.IntWalk
namespace Go.Proofs.YtdfiblaboddbjaaGreatDoor.Prs
open Go.RowKit Go.Proofs.YtdfiblaboddbjaaGreatDoor.Base Go.Proofs.YtdfiblaboddbjaaGreatDoor.Rep Go.Proofs.YtdfiblaboddbjaaGreatDoor.Mag Go.Proofs.YtdfiblaboddbjaaGreatDoor.Has
set_option linter.unusedVariables false
set_option linter.unusedSimpArgs false

/-- A run has a file. -/
def inR (file : Int) (r : Int × Int) : Bool := decide (0 < r.2) && decide (r.1 ≤ file) && decide (file - r.2 < r.1)
def wantB (l : List (Int × Int)) (file : Int) : Bool := decide (0 ≤ file) && (l.isEmpty || l.any (inR file))

set_option maxHeartbeats 2000000 in
set_option maxRecDepth 100000 in
theorem wanted1 (r : Int × Int) (file : Int) (fb : Nat) (w : World) (h0 : 0 ≤ file) (h1 : file ≤ 9223372036854775807) (hr1 : -9223372036854775808 ≤ r.1 ∧ r.1 ≤ 9223372036854775807) (hr : -9223372036854775808 ≤ r.2 ∧ r.2 ≤ 9223372036854775807) (hc : w.cell? ⟨fb, 0, none⟩ = some (.int .i64 file)) :
    Calls Tryz.prog 38 #[.agg #[.int .i64 r.1, .int .i64 r.2], .pointer (some ⟨fb, 0, none⟩)] w fun e w' => e = .returned (.bool (inR file r)) ∧ Below w.heap.size w w' := by
  obtain ⟨a, k⟩ := r
  simp only at hr hr1 ⊢
  have hfb : fb < w.heap.size := World.block_lt_of_cell? w ⟨fb, 0, none⟩ hc
  have hc' : (w.alloc (.cells #[.int .i64 a, .int .i64 k] 43)).cell? ⟨fb, 0, none⟩ = some (.int .i64 file) := ((((Below.refl w.heap.size w).alloc (Nat.le_refl _) _).cell (p := ⟨fb, 0, none⟩) hfb)).trans hc
  have hB : Below w.heap.size w (w.alloc (.cells #[.int .i64 a, .int .i64 k] 43)) := (Below.refl _ _).alloc (Nat.le_refl _) _
  have n0 : (w.alloc (.cells #[.int .i64 a, .int .i64 k] 43)).cell? ⟨w.heap.size, 0, none⟩ = some (.int .i64 a) := by rw [Lib.cell_of_heap (Go.heap_alloc_new w _)]; rfl
  have n1 : (w.alloc (.cells #[.int .i64 a, .int .i64 k] 43)).cell? ⟨w.heap.size, 1, none⟩ = some (.int .i64 k) := by rw [Lib.cell_of_heap (Go.heap_alloc_new w _)]; rfl
  obtain ⟨W, hW⟩ : ∃ W, w.alloc (.cells #[.int .i64 a, .int .i64 k] 43) = W := ⟨_, rfl⟩
  rw [hW] at hc' hB n0 n1
  have HB := Lib.hid hB
  clear hB hc
  go_enter Tryz.func38, Tryz.ntmps38
  by_cases hk : 0 < k
  · by_cases ha : a ≤ file
    · by_cases hl : file - k < a
      · have HE : Hid (inR file (a, k) = true) := by unfold inR; simp [hk, ha, hl, Hid]
        go_wp2
        go_ret
        exact ⟨by rw [HE.out]; simp; try omega, HB.out⟩
      · have HE : Hid (inR file (a, k) = false) := by unfold inR; simp [hk, ha, hl, Hid] <;> omega
        go_wp2
        go_ret
        exact ⟨by rw [HE.out]; simp; try omega, HB.out⟩
    · have HE : Hid (inR file (a, k) = false) := by unfold inR; simp [hk, ha, Hid]
      go_wp2
      go_ret
      exact ⟨by rw [HE.out]; rfl, HB.out⟩
  · have HE : Hid (inR file (a, k) = false) := by unfold inR; simp [hk, Hid]
    go_wp2
    go_ret
    exact ⟨by rw [HE.out]; rfl, HB.out⟩

theorem wf_range {n : Int} (h : (Lit.int .i64 n).wf = true) : -9223372036854775808 ≤ n ∧ n ≤ 9223372036854775807 := by
  simp [Lit.wf, IntKind.min, IntKind.max, IntKind.bits, IntKind.signed] at h; omega

def idxR (l : List (Int × Int)) (file : Int) : Int := match l.findIdx? (inR file) with | some i => (i : Int) | none => -1
theorem idxR_any (l : List (Int × Int)) (file : Int) : decide (0 ≤ idxR l file) = l.any (inR file) := by
  unfold idxR
  cases h : l.findIdx? (inR file) with
  | none =>
    have := List.findIdx?_eq_none_iff.1 h
    have h2 : l.any (inR file) = false := by rw [List.any_eq_false]; intro x hx; rw [this x hx]; simp
    rw [h2]; rfl
  | some i =>
    obtain ⟨h1, h2, _⟩ := List.findIdx?_eq_some_iff_getElem.1 h
    have h3 : l.any (inR file) = true := by rw [List.any_eq_true]; exact ⟨_, List.getElem_mem h1, h2⟩
    rw [h3]; simp

set_option maxHeartbeats 4000000 in
set_option maxRecDepth 100000 in
theorem indexFunc (ok : Nat → Prop) (l : List (Int × Int)) (v : Value) (file : Int) (fb : Nat) (w : World) (hl : RR w ok l v) (h0 : 0 ≤ file) (h1 : file ≤ 9223372036854775807) (hc : w.cell? ⟨fb, 0, none⟩ = some (.int .i64 file)) :
    Calls Tryz.prog 60 #[v, .func (.func 38) #[] #[.pointer (some ⟨fb, 0, none⟩)]] w fun e w' => e = .returned (.int .i64 (idxR l file)) ∧ Below w.heap.size w w' := by
  obtain ⟨a, c, rfl, hn, ⟨hcm, hn20, -⟩, ha⟩ := hl
  have hfb : fb < w.heap.size := World.block_lt_of_cell? w ⟨fb, 0, none⟩ hc
  have HA := Lib.hid ha
  have HC := Lib.hid hc
  clear ha hc
  go_enter Tryz.func60, Tryz.ntmps60
  go_wp2
  go_loopw [8] (fun v8 wr => ∃ k : Nat, k ≤ l.length ∧ v8 = .int .i64 (k : Int) ∧ Below w.heap.size w wr ∧ Hid (∀ j (hj : j < k) (hj' : j < l.length), inR file l[j] = false)) (fun v8 _ => l.length - (intOf v8).toNat)
  case atStart => exact ⟨0, Nat.zero_le _, rfl, Below.refl _ _, fun j hj => by omega⟩
  case round =>
    obtain ⟨k, hk, rfl, hB, hno⟩ := hrel
    have hwr := hB.size
    have hk0 : (0 : Int) ≤ (k : Int) := by omega
    by_cases hlt : k < l.length
    · rcases HA.out with hz | ⟨B, o, rfl, ha⟩
      · omega
      · obtain ⟨hat, hw1, hw2⟩ := ha k l[k] (by simp [hlt])
        replace hat := hat.keep (Keeps.of_below hB)
        obtain ⟨r, hr⟩ : ∃ r, l[k] = r := ⟨_, rfl⟩
        rw [hr] at hat hw1 hw2
        have fx0 := hat.cell 0 rfl
        have fx1 := hat.cell 1 rfl
        simp only [Nat.add_zero] at fx0
        have hk1 : (k : Int) < (l.length : Int) := by omega
        have HR := Lib.hid (wanted1 r file fb wr h0 h1 (wf_range hw1) (wf_range hw2) ((hB.cell (p := ⟨fb, 0, none⟩) hfb).trans HC.out))
        have Hr := Lib.hid hr
        clear ha hat hw1 hw2 hr
        go_wp2_with fail
        refine HR.out.mono ?_
        rintro e w1 ⟨rfl, hb1⟩
        have hBw : Below w.heap.size w w1 := hB.trans (hb1.mono hwr)
        clear fx0 fx1 HR hb1
        cases hin : inR file r with
        | true =>
          have HE : Hid (idxR l file = (k : Int)) := by
            unfold idxR
            have : l.findIdx? (inR file) = some k := by
              rw [List.findIdx?_eq_some_iff_getElem]
              exact ⟨hlt, by rw [Hr.out]; exact hin, fun j hj => by rw [hno.out j hj (by omega)]; simp⟩
            rw [this]; exact Lib.hid rfl
          clear hin
          go_wp2
          go_ret
          exact ⟨by rw [HE.out]; rfl, hBw⟩
        | false =>
          have HN : Hid (∀ j (hj : j < k + 1) (hj' : j < l.length), inR file l[j] = false) := fun j hj hj' => by
            by_cases e : j = k
            · subst e; rw [Hr.out]; exact hin
            · exact hno.out j (by omega) hj'
          clear hin
          go_wp2
          go_roundw
          case rel => exact ⟨k + 1, by omega, by go_num, hBw, HN⟩
          case measure => simp [intOf]; omega
    · obtain rfl : k = l.length := by omega
      have HE : Hid (idxR l file = -1) := by
        unfold idxR
        have : l.findIdx? (inR file) = none := by
          rw [List.findIdx?_eq_none_iff]
          intro x hx
          obtain ⟨j, hj, rfl⟩ := List.getElem_of_mem hx
          exact hno.out j hj hj
        rw [this]; exact Lib.hid rfl
      go_wp2
      go_ret
      exact ⟨by rw [HE.out]; rfl, hB⟩

set_option maxHeartbeats 2000000 in
theorem containsFunc (ok : Nat → Prop) (l : List (Int × Int)) (v : Value) (file : Int) (fb : Nat) (w : World) (hl : RR w ok l v) (h0 : 0 ≤ file) (h1 : file ≤ 9223372036854775807) (hc : w.cell? ⟨fb, 0, none⟩ = some (.int .i64 file)) :
    Calls Tryz.prog 37 #[v, .func (.func 38) #[] #[.pointer (some ⟨fb, 0, none⟩)]] w fun e w' => e = .returned (.bool (l.any (inR file))) ∧ Below w.heap.size w w' := by
  have hi := indexFunc ok l v file fb w hl h0 h1 hc
  have ha := idxR_any l file
  obtain ⟨i, hii⟩ : ∃ i, idxR l file = i := ⟨_, rfl⟩
  rw [hii] at hi ha
  have HI := Lib.hid hi
  have HA := Lib.hid ha
  clear hi ha hii hc hl
  go_enter Tryz.func37, Tryz.ntmps37
  go_wp2_with fail
  refine HI.out.mono ?_
  rintro e w1 ⟨rfl, hb1⟩
  go_wp2
  go_ret
  exact ⟨by rw [← HA.out]; rfl, hb1⟩

set_option maxHeartbeats 4000000 in
set_option maxRecDepth 100000 in
/-- The program's Wanted. -/
theorem wanted (ok : Nat → Prop) (X : Lk) (tv pv ov mv : Value) (file : Int) (w : World) (hX : RL w ok X tv pv ov mv) (h1 : -9223372036854775808 ≤ file ∧ file ≤ 9223372036854775807) :
    Calls Tryz.prog 15 #[.agg (lcells X tv pv ov mv).toArray, .int .i64 file] w fun e w' => e = .returned (.bool (wantB X.only file)) ∧ Below w.heap.size w w' := by
  have hi := hX.info
  have hB0 : Below w.heap.size w (w.alloc (.cells (lcells X tv pv ov mv).toArray 29)) := (Below.refl _ _).alloc (Nat.le_refl _) _
  have hA : Lb (w.alloc (.cells (lcells X tv pv ov mv).toArray 29)) w.heap.size 29 X tv pv ov mv := heap_alloc_new w _
  have hz0 : (w.alloc (.cells (lcells X tv pv ov mv).toArray 29)).heap.size = w.heap.size + 1 := by simp
  obtain ⟨W0, hW0⟩ : ∃ W0, w.alloc (.cells (lcells X tv pv ov mv).toArray 29) = W0 := ⟨_, rfl⟩
  rw [hW0] at hB0 hA hz0
  have hb1 : Below W0.heap.size W0 (W0.alloc (.cells #[.int .i64 file] 3)) := (Below.refl _ _).alloc (Nat.le_refl _) _
  have hf := Go.heap_alloc_new W0 (.cells #[.int .i64 file] 3)
  obtain ⟨W1, hW1⟩ : ∃ W1, W0.alloc (.cells #[.int .i64 file] 3) = W1 := ⟨_, rfl⟩
  rw [hW1] at hb1 hf
  rw [hz0] at hf
  have hA1 := hA.below hb1
  have hB1 : Below w.heap.size w W1 := hB0.trans (hb1.mono (by omega))
  have cf : W1.cell? ⟨w.heap.size + 1, 0, none⟩ = some (.int .i64 file) := by rw [Lib.cell_of_heap hf]; rfl
  have c35 : W1.cell? ⟨w.heap.size, 35, none⟩ = some ov := by rw [hA1.cell 35]; exact lcells_35 hi _ _ _ _
  have hRR := (hX.only).keep (Keeps.of_below hB1)
  have HB1 := Lib.hid hB1
  have HRR := Lib.hid hRR
  have HCF := Lib.hid cf
  obtain ⟨oa, oc, hov, _⟩ := hX.only
  subst hov
  clear hA hA1 hf hb1 hB0 hX hRR hB1
  go_enter Tryz.func15, Tryz.ntmps15
  by_cases hneg : file < 0
  · have HE : Hid (wantB X.only file = false) := by
      unfold wantB
      have : ¬ 0 ≤ file := by omega
      simp [this, Hid]
    go_wp2
    go_ret
    exact ⟨by rw [HE.out]; rfl, HB1.out⟩
  · have h0 : 0 ≤ file := by omega
    cases hl : X.only with
    | nil =>
      have HE : Hid (wantB X.only file = true) := by unfold wantB; rw [hl]; simp [h0, Hid]
      rw [hl] at c35 HRR
      rw [← hl]
      simp only [List.length_nil] at c35
      clear hl
      go_wp2
      go_ret
      exact ⟨by rw [HE.out]; rfl, HB1.out⟩
    | cons r rs =>
      have HE : Hid (wantB X.only file = X.only.any (inR file)) := by unfold wantB; rw [hl]; simp [h0, Hid]
      have hcf := containsFunc ok X.only _ file (w.heap.size + 1) W1 HRR.out h0 h1.2 HCF.out
      have hlen : X.only.length = rs.length + 1 := by rw [hl]; rfl
      rw [← hl]
      obtain ⟨n, hn⟩ : ∃ n, X.only.length = n := ⟨_, rfl⟩
      rw [hn] at c35 hcf hlen
      have hne : ((n : Int) == 0) = false := by simp; omega
      have hn0 : 0 < n := by omega
      have HC := Lib.hid hcf
      clear hl hlen hn hcf
      go_wp2_with fail
      refine HC.out.mono ?_
      rintro e w2 ⟨rfl, hb2⟩
      have HB2 : Hid (Below w.heap.size w w2) := HB1.out.trans (hb2.mono HB1.out.size)
      clear hb2
      go_wp2
      go_ret
      exact ⟨by rw [HE.out]; rfl, HB2.out⟩

end Go.Proofs.YtdfiblaboddbjaaGreatDoor.Prs
