import Derived.Test.YtdfiblaboddbjaaGreatDoorMagRep
import Derived.Test.YtdfiblaboddbjaaGreatDoorProg
import Derived.KernelRfl
import Derived.Handy
import Derived.Deep.RegionHeld3
import Derived.Deep.QuietTactic
import Derived.BigQuiet
namespace Go.Proofs.YtdfiblaboddbjaaGreatDoor.Same
open Go.RowKit Go.Proofs.YtdfiblaboddbjaaGreatDoor.Base Go.Proofs.YtdfiblaboddbjaaGreatDoor.Rep
set_option linter.unusedVariables false
set_option linter.unusedSimpArgs false

theorem sizeV : (Tryz.prog.info? 49).map (·.size) = some 5 := by kernel_rfl

set_option maxHeartbeats 1000000 in
set_option maxRecDepth 100000 in
theorem textsSame (ok ok' : Nat → Prop) (l : List ByteArray) (v v' : Value) (w : World) (hl : RS w ok l v) (hl' : RS w ok' l v') :
    Calls Tryz.prog 21 #[v, v'] w fun e w' => e = .returned (.bool true) ∧ Below w.heap.size w w' := by
  obtain ⟨a, c, rfl, hn, ⟨hcm, hn20, -⟩, ha⟩ := hl
  obtain ⟨a', c', rfl, hn', ⟨hcm', hn20', -⟩, ha'⟩ := hl'
  have HA := Lib.hid ha
  have HA' := Lib.hid ha'
  clear ha ha'
  go_enter Tryz.func21, Tryz.ntmps21
  go_wp2
  go_loopw [5] (fun v5 wr => ∃ k : Nat, k ≤ l.length ∧ v5 = .int .i64 k ∧ Below w.heap.size w wr) (fun v5 _ => l.length - (intOf v5).toNat)
  case atStart => exact ⟨0, Nat.zero_le _, rfl, Below.refl _ _⟩
  case round =>
    obtain ⟨k, hk, rfl, hB⟩ := hrel
    by_cases hlt : k < l.length
    · rcases HA.out with h0 | ⟨B, o, rfl, ha⟩
      · omega
      · rcases HA'.out with h0 | ⟨B', o', rfl, ha'⟩
        · omega
        · have hcc := (((ha k l[k] (by simp [hlt])).1).keep (Keeps.of_below hB)).cell 0 rfl
          have hcc' := (((ha' k l[k] (by simp [hlt])).1).keep (Keeps.of_below hB)).cell 0 rfl
          simp only [Nat.add_zero] at hcc hcc'
          clear ha ha'
          have hk0 : (0 : Int) ≤ (k : Int) := by omega
          have hk1 : (k : Int) < (l.length : Int) := by omega
          go_wp2_with fail
          go_quiet (fail)
          go_wp2
          exact ⟨⟨k + 1, by omega, by go_num, below_N hB _⟩, by simp [intOf]; omega⟩
    · go_wp2
      go_ret
      exact ⟨rfl, hB⟩

def SameOk (x : V) : Prop := ∀ (ok ok' : Nat → Prop) (cs cs' : List Value) (w : World), RV w ok x cs → RV w ok' x cs' →
    Calls Tryz.prog 47 #[.agg cs.toArray, .agg cs'.toArray] w fun e w' => e = .returned (.bool true) ∧ Below w.heap.size w w'

set_option maxHeartbeats 1000000 in
set_option maxRecDepth 100000 in
theorem pairsSame (ok ok' : Nat → Prop) (m : Nat) (dk : Nat → ByteArray) (dv : Nat → V) (ih : ∀ j, SameOk (dv j)) (v v' : Value) (w : World) (hl : RP w ok m dk dv v) (hl' : RP w ok' m dk dv v') :
    Calls Tryz.prog 25 #[v, v'] w fun e w' => e = .returned (.bool true) ∧ Below w.heap.size w w' := by
  obtain ⟨a, c, rfl, hn, ⟨hcm, hn20, -⟩, ha⟩ := hl
  obtain ⟨a', c', rfl, hn', ⟨hcm', hn20', -⟩, ha'⟩ := hl'
  have HI := Lib.hid ih
  have HA := Lib.hid ha
  have HA' := Lib.hid ha'
  clear ha ha' ih
  go_enter Tryz.func25, Tryz.ntmps25
  go_wp2
  go_loopw [5] (fun v5 wr => ∃ k : Nat, k ≤ m ∧ v5 = .int .i64 k ∧ Below w.heap.size w wr) (fun v5 _ => m - (intOf v5).toNat)
  case atStart => exact ⟨0, Nat.zero_le _, rfl, Below.refl _ _⟩
  case round =>
    obtain ⟨k, hk, rfl, hB⟩ := hrel
    have hwr := hB.size
    by_cases hlt : k < m
    · rcases HA.out with h0 | ⟨B, o, rfl, ha⟩
      · omega
      · rcases HA'.out with h0 | ⟨B', o', rfl, ha'⟩
        · omega
        · obtain ⟨cs, hcell, hsz, hrv⟩ := ha k hlt
          obtain ⟨cs', hcell', hsz', hrv'⟩ := ha' k hlt
          have hcc := (hcell.keep (Keeps.of_below hB)).cell 0 rfl
          have hcc' := (hcell'.keep (Keeps.of_below hB)).cell 0 rfl
          simp only [Nat.add_zero] at hcc hcc'
          have HR := Lib.hid (RV.keep (Keeps.of_below hB) _ _ hrv)
          have HR' := Lib.hid (RV.keep (Keeps.of_below hB) _ _ hrv')
          have hra : Hid (wr.rangeAt B (o + k * 6 + 1) cs) := fun j u hj => by
            have := (hcell.keep (Keeps.of_below hB)).2.2 (j + 1) u (by simpa using hj)
            rw [← this]; congr 2; omega
          have hra' : Hid (wr.rangeAt B' (o' + k * 6 + 1) cs') := fun j u hj => by
            have := (hcell'.keep (Keeps.of_below hB)).2.2 (j + 1) u (by simpa using hj)
            rw [← this]; congr 2; omega
          obtain ⟨x0, x1, x2, x3, x4, rfl⟩ := list5 hrv.length
          obtain ⟨y0, y1, y2, y3, y4, rfl⟩ := list5 hrv'.length
          clear ha ha' hcell hcell' hrv hrv' hsz hsz'
          have hk0 : (0 : Int) ≤ (k : Int) := by omega
          have hk1 : (k : Int) < (m : Int) := by omega
          go_wp2_with fail
          go_quiet (fail)
          clear hcc hcc'
          go_wp2_with fail
          have a0 : wr.cell? ⟨B, o + k * 6 + 1, none⟩ = some x0 := hra.out 0 _ rfl
          have a1 : wr.cell? ⟨B, o + k * 6 + 1 + 1, none⟩ = some x1 := hra.out 1 _ rfl
          have a2 : wr.cell? ⟨B, o + k * 6 + 1 + 2, none⟩ = some x2 := hra.out 2 _ rfl
          have a3 : wr.cell? ⟨B, o + k * 6 + 1 + 3, none⟩ = some x3 := hra.out 3 _ rfl
          have a4 : wr.cell? ⟨B, o + k * 6 + 1 + 4, none⟩ = some x4 := hra.out 4 _ rfl
          have b0 : wr.cell? ⟨B', o' + k * 6 + 1, none⟩ = some y0 := hra'.out 0 _ rfl
          have b1 : wr.cell? ⟨B', o' + k * 6 + 1 + 1, none⟩ = some y1 := hra'.out 1 _ rfl
          have b2 : wr.cell? ⟨B', o' + k * 6 + 1 + 2, none⟩ = some y2 := hra'.out 2 _ rfl
          have b3 : wr.cell? ⟨B', o' + k * 6 + 1 + 3, none⟩ = some y3 := hra'.out 3 _ rfl
          have b4 : wr.cell? ⟨B', o' + k * 6 + 1 + 4, none⟩ = some y4 := hra'.out 4 _ rfl
          have HRd := Lib.hid (RV.keep (w' := (wr.drewN nq).drew) (Keeps.of_below (below_N (Below.refl _ _) _).drew) _ _ HR.out)
          have HRd' := Lib.hid (RV.keep (w' := (wr.drewN nq).drew) (Keeps.of_below (below_N (Below.refl _ _) _).drew) _ _ HR'.out)
          have hBl : B < (wr.drewN nq).drew.heap.size := World.block_lt_of_cell? wr _ a0
          have hBl' : B' < (wr.drewN nq).drew.heap.size := World.block_lt_of_cell? wr _ b0
          have KK : ∀ w1 : World, Below (wr.drewN nq).drew.heap.size (wr.drewN nq).drew w1 → w1.cell? ⟨B, o + k * 6 + 1, none⟩ = some x0 ∧ w1.cell? ⟨B, o + k * 6 + 1 + 1, none⟩ = some x1 ∧ w1.cell? ⟨B, o + k * 6 + 1 + 2, none⟩ = some x2 ∧ w1.cell? ⟨B, o + k * 6 + 1 + 3, none⟩ = some x3 ∧ w1.cell? ⟨B, o + k * 6 + 1 + 4, none⟩ = some x4 ∧ w1.cell? ⟨B', o' + k * 6 + 1, none⟩ = some y0 ∧ w1.cell? ⟨B', o' + k * 6 + 1 + 1, none⟩ = some y1 ∧ w1.cell? ⟨B', o' + k * 6 + 1 + 2, none⟩ = some y2 ∧ w1.cell? ⟨B', o' + k * 6 + 1 + 3, none⟩ = some y3 ∧ w1.cell? ⟨B', o' + k * 6 + 1 + 4, none⟩ = some y4 := fun w1 h => ⟨(h.cell (p := ⟨B, o + k * 6 + 1, none⟩) hBl).trans a0, (h.cell (p := ⟨B, o + k * 6 + 1 + 1, none⟩) hBl).trans a1, (h.cell (p := ⟨B, o + k * 6 + 1 + 2, none⟩) hBl).trans a2, (h.cell (p := ⟨B, o + k * 6 + 1 + 3, none⟩) hBl).trans a3, (h.cell (p := ⟨B, o + k * 6 + 1 + 4, none⟩) hBl).trans a4, (h.cell (p := ⟨B', o' + k * 6 + 1, none⟩) hBl').trans b0, (h.cell (p := ⟨B', o' + k * 6 + 1 + 1, none⟩) hBl').trans b1, (h.cell (p := ⟨B', o' + k * 6 + 1 + 2, none⟩) hBl').trans b2, (h.cell (p := ⟨B', o' + k * 6 + 1 + 3, none⟩) hBl').trans b3, (h.cell (p := ⟨B', o' + k * 6 + 1 + 4, none⟩) hBl').trans b4⟩
          have HKK := Lib.hid KK
          clear KK
          go_region_held3 (fun w' => w'.cell? ⟨B, o + k * 6 + 1, none⟩ = some x0 ∧ w'.cell? ⟨B, o + k * 6 + 1 + 1, none⟩ = some x1 ∧ w'.cell? ⟨B, o + k * 6 + 1 + 2, none⟩ = some x2 ∧ w'.cell? ⟨B, o + k * 6 + 1 + 3, none⟩ = some x3 ∧ w'.cell? ⟨B, o + k * 6 + 1 + 4, none⟩ = some x4 ∧ w'.cell? ⟨B', o' + k * 6 + 1, none⟩ = some y0 ∧ w'.cell? ⟨B', o' + k * 6 + 1 + 1, none⟩ = some y1 ∧ w'.cell? ⟨B', o' + k * 6 + 1 + 2, none⟩ = some y2 ∧ w'.cell? ⟨B', o' + k * 6 + 1 + 3, none⟩ = some y3 ∧ w'.cell? ⟨B', o' + k * 6 + 1 + 4, none⟩ = some y4)
            (first | go_keep | (with_reducible exact HKK.out _ hb1))
            ((go_at_call 47; refine (HI.out k ok ok' [x0, x1, x2, x3, x4] [y0, y1, y2, y3, y4] (wr.drewN nq).drew HRd.out HRd'.out).mono ?_; rintro e w1 ⟨rfl, hb1⟩))
          go_wp2
          exact ⟨⟨k + 1, by omega, by go_num, (below_N hB _).drew.trans (hb1.mono (by simp; omega))⟩, by simp [intOf]; omega⟩
    · go_wp2
      go_ret
      exact ⟨rfl, hB⟩

set_option maxHeartbeats 1000000 in
set_option maxRecDepth 100000 in
theorem valueSame (x : V) : SameOk x := by
  induction x with
  | leaf => intro ok ok' cs cs' w hrv; exact (hrv : False).elim
  | mk k i s n l m dk dv ihl ihd =>
    intro ok ok' cs cs' w hrv hrv'
    have HIL := Lib.hid ihl
    have HID := Lib.hid ihd
    clear ihl ihd
    obtain ⟨lv, xv, rfl, hs, hl, hx⟩ := hrv
    obtain ⟨lv', xv', rfl, hs', hl', hx'⟩ := hrv'
    have HX := Lib.hid hx
    have HX' := Lib.hid hx'
    obtain ⟨a, c, rfl, hn, ⟨hcm, hn20, -⟩, ha⟩ := hl
    obtain ⟨a', c', rfl, hn', ⟨hcm', hn20', -⟩, ha'⟩ := hx
    obtain ⟨e, f, rfl, hne, ⟨hcme, hne20, -⟩, he⟩ := hl'
    obtain ⟨e', f', rfl, hne', ⟨hcme', hne20', -⟩, he'⟩ := hx'
    have HA := Lib.hid ha
    have HE := Lib.hid he
    clear ha ha' he he'
    go_enter Tryz.func47, Tryz.ntmps47
    go_wp2_with fail
    have hB0 : Below w.heap.size w ((w.alloc (.cells #[.int .i64 k, .int .i64 i, .string s, .slice a n c, .slice a' m c'] 49)).alloc (.cells #[.int .i64 k, .int .i64 i, .string s, .slice e n f, .slice e' m f'] 49)) := ((Below.refl _ _).alloc (Nat.le_refl _) _).alloc (by simp) _
    have hba := heap_alloc2_old w (.cells #[.int .i64 k, .int .i64 i, .string s, .slice a n c, .slice a' m c'] 49) (.cells #[.int .i64 k, .int .i64 i, .string s, .slice e n f, .slice e' m f'] 49)
    have hbb := heap_alloc2_new w (.cells #[.int .i64 k, .int .i64 i, .string s, .slice a n c, .slice a' m c'] 49) (.cells #[.int .i64 k, .int .i64 i, .string s, .slice e n f, .slice e' m f'] 49)
    have hz : w.heap.size + 1 < ((w.alloc (.cells #[.int .i64 k, .int .i64 i, .string s, .slice a n c, .slice a' m c'] 49)).alloc (.cells #[.int .i64 k, .int .i64 i, .string s, .slice e n f, .slice e' m f'] 49)).heap.size := by simp
    refine (pairsSame ok ok' m dk dv (fun j => HID.out j) (.slice a' m c') (.slice e' m f') _ (RP.keep HX.out (Keeps.of_below hB0)) (RP.keep HX'.out (Keeps.of_below hB0))).mono ?_
    rintro e1 w1 ⟨rfl, hb1⟩
    have hBA : Hid (w1.heap[w.heap.size]? = some (.cells #[.int .i64 k, .int .i64 i, .string s, .slice a n c, .slice a' m c'] 49 (0, 0))) := (hb1.block _ (by omega)).trans hba
    have hBB : Hid (w1.heap[w.heap.size + 1]? = some (.cells #[.int .i64 k, .int .i64 i, .string s, .slice e n f, .slice e' m f'] 49 (0, 0))) := (hb1.block _ hz).trans hbb
    have hB1 : Below w.heap.size w w1 := hB0.trans (hb1.mono (by omega))
    have hA3 : w1.cell? ⟨w.heap.size, 3, none⟩ = some (.slice a n c) := by rw [Lib.cell_of_heap hBA.out]; rfl
    clear hB0 hba hbb hz hb1
    go_wp2
    clear hA3
    go_loopw [5] (fun v5 wr => ∃ q : Nat, q ≤ n ∧ v5 = .int .i64 q ∧ Below w.heap.size w wr ∧ Hid (wr.heap[w.heap.size]? = some (.cells #[.int .i64 k, .int .i64 i, .string s, .slice a n c, .slice a' m c'] 49 (0, 0))) ∧ Hid (wr.heap[w.heap.size + 1]? = some (.cells #[.int .i64 k, .int .i64 i, .string s, .slice e n f, .slice e' m f'] 49 (0, 0)))) (fun v5 _ => n - (intOf v5).toNat)
    case atStart => exact ⟨0, Nat.zero_le _, rfl, hB1, hBA, hBB⟩
    case round =>
      obtain ⟨q, hq, rfl, hB, hBA, hBB⟩ := hrel
      have hwr := hB.size
      have c3 : wr.cell? ⟨w.heap.size, 3, none⟩ = some (.slice a n c) := by rw [Lib.cell_of_heap hBA.out]; rfl
      by_cases hlt : q < n
      · rcases HA.out with h0 | ⟨B, o, rfl, ha⟩
        · omega
        · rcases HE.out with h0 | ⟨B', o', rfl, he⟩
          · omega
          · have d3 : wr.cell? ⟨w.heap.size + 1, 3, none⟩ = some (.slice (some ⟨B', o', none⟩) n f) := by rw [Lib.cell_of_heap hBB.out]; rfl
            obtain ⟨cs, hcell, hrv⟩ := ha q hlt
            obtain ⟨cs', hcell', hrv'⟩ := he q hlt
            have HR := Lib.hid (RV.keep (w' := wr.drew) (Keeps.of_below hB.drew) _ _ hrv)
            have HR' := Lib.hid (RV.keep (w' := wr.drew) (Keeps.of_below hB.drew) _ _ hrv')
            have hra : Hid (wr.rangeAt B (o + q * 5) cs) := (hcell.keep (Keeps.of_below hB)).2.2
            have hra' : Hid (wr.rangeAt B' (o' + q * 5) cs') := (hcell'.keep (Keeps.of_below hB)).2.2
            obtain ⟨x0, x1, x2, x3, x4, rfl⟩ := list5 hrv.length
            obtain ⟨y0, y1, y2, y3, y4, rfl⟩ := list5 hrv'.length
            clear ha he hcell hcell' hrv hrv'
            have hk0 : (0 : Int) ≤ (q : Int) := by omega
            have hk1 : (q : Int) < (n : Int) := by omega
            have a0 : wr.cell? ⟨B, o + q * 5, none⟩ = some x0 := hra.out 0 _ rfl
            have a1 : wr.cell? ⟨B, o + q * 5 + 1, none⟩ = some x1 := hra.out 1 _ rfl
            have a2 : wr.cell? ⟨B, o + q * 5 + 2, none⟩ = some x2 := hra.out 2 _ rfl
            have a3 : wr.cell? ⟨B, o + q * 5 + 3, none⟩ = some x3 := hra.out 3 _ rfl
            have a4 : wr.cell? ⟨B, o + q * 5 + 4, none⟩ = some x4 := hra.out 4 _ rfl
            have b0 : wr.cell? ⟨B', o' + q * 5, none⟩ = some y0 := hra'.out 0 _ rfl
            have b1 : wr.cell? ⟨B', o' + q * 5 + 1, none⟩ = some y1 := hra'.out 1 _ rfl
            have b2 : wr.cell? ⟨B', o' + q * 5 + 2, none⟩ = some y2 := hra'.out 2 _ rfl
            have b3 : wr.cell? ⟨B', o' + q * 5 + 3, none⟩ = some y3 := hra'.out 3 _ rfl
            have b4 : wr.cell? ⟨B', o' + q * 5 + 4, none⟩ = some y4 := hra'.out 4 _ rfl
            have hl0 : w.heap.size < wr.drew.heap.size := (Array.getElem?_eq_some_iff.1 hBA.out).1
            have hl1 : w.heap.size + 1 < wr.drew.heap.size := (Array.getElem?_eq_some_iff.1 hBB.out).1
            have hBl : B < wr.drew.heap.size := World.block_lt_of_cell? wr _ a0
            have hBl' : B' < wr.drew.heap.size := World.block_lt_of_cell? wr _ b0
            have KK : ∀ w1 : World, Below wr.drew.heap.size wr.drew w1 → w1.cell? ⟨w.heap.size, 3, none⟩ = some (.slice (some ⟨B, o, none⟩) n c) ∧ w1.cell? ⟨w.heap.size + 1, 3, none⟩ = some (.slice (some ⟨B', o', none⟩) n f) ∧ w1.cell? ⟨B, o + q * 5, none⟩ = some x0 ∧ w1.cell? ⟨B, o + q * 5 + 1, none⟩ = some x1 ∧ w1.cell? ⟨B, o + q * 5 + 2, none⟩ = some x2 ∧ w1.cell? ⟨B, o + q * 5 + 3, none⟩ = some x3 ∧ w1.cell? ⟨B, o + q * 5 + 4, none⟩ = some x4 ∧ w1.cell? ⟨B', o' + q * 5, none⟩ = some y0 ∧ w1.cell? ⟨B', o' + q * 5 + 1, none⟩ = some y1 ∧ w1.cell? ⟨B', o' + q * 5 + 2, none⟩ = some y2 ∧ w1.cell? ⟨B', o' + q * 5 + 3, none⟩ = some y3 ∧ w1.cell? ⟨B', o' + q * 5 + 4, none⟩ = some y4 := fun w1 h => ⟨(h.cell (p := ⟨w.heap.size, 3, none⟩) hl0).trans c3, (h.cell (p := ⟨w.heap.size + 1, 3, none⟩) hl1).trans d3, (h.cell (p := ⟨B, o + q * 5, none⟩) hBl).trans a0, (h.cell (p := ⟨B, o + q * 5 + 1, none⟩) hBl).trans a1, (h.cell (p := ⟨B, o + q * 5 + 2, none⟩) hBl).trans a2, (h.cell (p := ⟨B, o + q * 5 + 3, none⟩) hBl).trans a3, (h.cell (p := ⟨B, o + q * 5 + 4, none⟩) hBl).trans a4, (h.cell (p := ⟨B', o' + q * 5, none⟩) hBl').trans b0, (h.cell (p := ⟨B', o' + q * 5 + 1, none⟩) hBl').trans b1, (h.cell (p := ⟨B', o' + q * 5 + 2, none⟩) hBl').trans b2, (h.cell (p := ⟨B', o' + q * 5 + 3, none⟩) hBl').trans b3, (h.cell (p := ⟨B', o' + q * 5 + 4, none⟩) hBl').trans b4⟩
            have HKK := Lib.hid KK
            have hl1' : w.heap.size + 1 < wr.heap.size := hl1
            clear KK hl0 hl1 hBl hBl'
            go_wp2_with fail
            go_region_held3 (fun w' => w'.cell? ⟨w.heap.size, 3, none⟩ = some (.slice (some ⟨B, o, none⟩) n c) ∧ w'.cell? ⟨w.heap.size + 1, 3, none⟩ = some (.slice (some ⟨B', o', none⟩) n f) ∧ w'.cell? ⟨B, o + q * 5, none⟩ = some x0 ∧ w'.cell? ⟨B, o + q * 5 + 1, none⟩ = some x1 ∧ w'.cell? ⟨B, o + q * 5 + 2, none⟩ = some x2 ∧ w'.cell? ⟨B, o + q * 5 + 3, none⟩ = some x3 ∧ w'.cell? ⟨B, o + q * 5 + 4, none⟩ = some x4 ∧ w'.cell? ⟨B', o' + q * 5, none⟩ = some y0 ∧ w'.cell? ⟨B', o' + q * 5 + 1, none⟩ = some y1 ∧ w'.cell? ⟨B', o' + q * 5 + 2, none⟩ = some y2 ∧ w'.cell? ⟨B', o' + q * 5 + 3, none⟩ = some y3 ∧ w'.cell? ⟨B', o' + q * 5 + 4, none⟩ = some y4)
              (first | go_keep | (with_reducible exact HKK.out _ hb1))
              ((go_at_call 47; refine (HIL.out q ok ok' [x0, x1, x2, x3, x4] [y0, y1, y2, y3, y4] wr.drew HR.out HR'.out).mono ?_; rintro e w1 ⟨rfl, hb1⟩))
            go_wp2
            have hb1s := hb1.size
            simp at hb1s
            exact ⟨⟨q + 1, by omega, by go_num, hB.drew.trans (hb1.mono (by simp; omega)), (hb1.block _ (by simp; omega)).trans hBA.out, (hb1.block _ (by simp; omega)).trans hBB.out⟩, by simp [intOf]; omega⟩
      · go_wp2
        go_ret
        exact ⟨rfl, hB⟩

theorem run_neq_range (a b : Int) (w : World) : (binOp .neq 43 (.agg #[.int .i64 a, .int .i64 b]) (.agg #[.int .i64 a, .int .i64 b])).run Tryz.prog w = .ok (.bool false) w := by
  have h : ∀ d, (Op.equalIn (d + 2) 43 (.agg #[.int .i64 a, .int .i64 b]) (.agg #[.int .i64 a, .int .i64 b])).run Tryz.prog w = .ok true w := by
    intro d
    rw [Op.equalIn]
    simp [run_underlying Tryz.underlying43, Op.equalIn, part]
  simp only [binOp]
  simp [Op.equal, Op.maxDepth, h]

theorem sizeHash : (Tryz.prog.info? 24).map (·.size) = some 32 := by kernel_rfl
theorem sizeByte (w : World) : (Go.sizeOf 5).run Tryz.prog w = .ok 1 w := by kernel_rfl

set_option maxHeartbeats 1000000 in
set_option maxRecDepth 100000 in
theorem same (ok ok' : Nat → Prop) (X : Lk) (tv pv ov mv tv' pv' ov' mv' : Value) (w : World) (hX : RL w ok X tv pv ov mv) (hX' : RL w ok' X tv' pv' ov' mv') :
    Calls Tryz.prog 10 #[.agg (lcells X tv pv ov mv).toArray, .agg (lcells X tv' pv' ov' mv').toArray] w fun e w' => e = .returned (.bool true) ∧ Below w.heap.size w w' := by
  have hi := hX.info
  have hB0 : Below w.heap.size w ((w.alloc (.cells (lcells X tv pv ov mv).toArray 29)).alloc (.cells (lcells X tv' pv' ov' mv').toArray 29)) := ((Below.refl _ _).alloc (Nat.le_refl _) _).alloc (by simp) _
  have hA : Lb ((w.alloc (.cells (lcells X tv pv ov mv).toArray 29)).alloc (.cells (lcells X tv' pv' ov' mv').toArray 29)) w.heap.size 29 X tv pv ov mv := heap_alloc2_old w _ _
  have hA' : Lb ((w.alloc (.cells (lcells X tv pv ov mv).toArray 29)).alloc (.cells (lcells X tv' pv' ov' mv').toArray 29)) (w.heap.size + 1) 29 X tv' pv' ov' mv' := heap_alloc2_new w _ _
  obtain ⟨W0, hW0⟩ : ∃ W0, (w.alloc (.cells (lcells X tv pv ov mv).toArray 29)).alloc (.cells (lcells X tv' pv' ov' mv').toArray 29) = W0 := ⟨_, rfl⟩
  rw [hW0] at hB0 hA hA'
  have c32 := hA.cell 32
  have c33 := hA.cell 33
  have d32 := hA'.cell 32
  have d33 := hA'.cell 33
  rw [lcells_32 hi] at c32 d32
  rw [lcells_33 hi] at c33 d33
  have hne := run_neq_bytes 24 5 32 Tryz.underlying24 Tryz.underlying5 sizeByte X.info X.info hi hi
  rw [beq_self_eq_true] at hne
  have HA := Lib.hid hA
  have HA' := Lib.hid hA'
  have HI := Lib.hid hi
  have HR := Lib.hid (hA.info hi)
  have HR' := Lib.hid (hA'.info hi)
  have HS := Lib.hid (show (Tryz.prog.info? 24).map (·.size) = some (X.info.map fun b => Value.int .u8 (b.toNat : Int)).length by simp [hi, sizeHash])
  clear hA hA' hi
  go_enter Tryz.func10, Tryz.ntmps10
  go_wp2_with (first
    | (refine wpList_load_mid rfl 24 _ rfl w.heap.size 0 rfl _ _ HR.out Tryz.underlying24 rfl HS.out ?_)
    | (refine wpList_load_mid rfl 24 _ rfl (w.heap.size + 1) 0 rfl _ _ HR'.out Tryz.underlying24 rfl HS.out ?_))
  refine (textsSame ok ok' X.trackers tv tv' W0 (RS.keep hX.trackers (Keeps.of_below hB0)) (RS.keep hX'.trackers (Keeps.of_below hB0))).mono ?_
  rintro e1 w1 ⟨rfl, hb1⟩
  have hB1 := hB0.trans (hb1.mono hB0.size)
  have HA1 := Lib.hid (HA.out.below hb1)
  have HA1' := Lib.hid (HA'.out.below hb1)
  clear c32 c33 d32 d33 hb1
  have c34 := HA1.out.cell 34
  have d34 := HA1'.out.cell 34
  rw [lcells_34 HI.out] at c34 d34
  go_wp2_with fail
  refine (textsSame ok ok' X.peers pv pv' w1 (RS.keep hX.peers (Keeps.of_below hB1)) (RS.keep hX'.peers (Keeps.of_below hB1))).mono ?_
  rintro e2 w2 ⟨rfl, hb2⟩
  have hB2 := hB1.trans (hb2.mono hB1.size)
  have HA2 := Lib.hid (HA1.out.below hb2)
  have HA2' := Lib.hid (HA1'.out.below hb2)
  clear c34 d34 hb2 HA1 HA1' hne HR HR' hB1 hB0
  obtain ⟨a, c, rfl, hn, ⟨hcm, hn20, -⟩, ha⟩ := hX.only
  obtain ⟨a', c', rfl, hn', ⟨hcm', hn20', -⟩, ha'⟩ := hX'.only
  have HO := Lib.hid ha
  have HO' := Lib.hid ha'
  clear ha ha'
  have c35 := HA2.out.cell 35
  have d35 := HA2'.out.cell 35
  rw [lcells_35 HI.out] at c35 d35
  go_wp2_with fail
  clear c35 d35
  go_loopw [5] (fun v5 wr => ∃ k : Nat, k ≤ X.only.length ∧ v5 = .int .i64 k ∧ Below w.heap.size w wr ∧ Hid (Lb wr w.heap.size 29 X tv pv (.slice a X.only.length c) mv) ∧ Hid (Lb wr (w.heap.size + 1) 29 X tv' pv' (.slice a' X.only.length c') mv')) (fun v5 _ => X.only.length - (intOf v5).toNat)
  case atStart => exact ⟨0, Nat.zero_le _, rfl, hB2, HA2, HA2'⟩
  case round =>
    obtain ⟨k, hk, rfl, hB, HA2, HA2'⟩ := hrel
    have hwr := hB.size
    have c35 := HA2.out.cell 35
    have d35 := HA2'.out.cell 35
    rw [lcells_35 HI.out] at c35 d35
    by_cases hlt : k < X.only.length
    · rcases HO.out with h0 | ⟨B, o, rfl, ha⟩
      · omega
      · rcases HO'.out with h0 | ⟨B', o', rfl, ha'⟩
        · omega
        · have hcl := (ha k X.only[k] (by simp [hlt])).1.keep (Keeps.of_below hB)
          have hcl' := (ha' k X.only[k] (by simp [hlt])).1.keep (Keeps.of_below hB)
          have x0 := hcl.cell 0 rfl
          have x1 := hcl.cell 1 rfl
          have y0 := hcl'.cell 0 rfl
          have y1 := hcl'.cell 1 rfl
          simp only [Nat.add_zero] at x0 x1 y0 y1
          have hrn := run_neq_range X.only[k].1 X.only[k].2
          clear ha ha' hcl hcl'
          have hk0 : (0 : Int) ≤ (k : Int) := by omega
          have hk1 : (k : Int) < (X.only.length : Int) := by omega
          go_wp2_with fail
          go_quiet (fail)
          go_wp2
          exact ⟨⟨k + 1, by omega, by go_num, below_N hB _, HA2, HA2'⟩, by simp [intOf]; omega⟩
    · have c36 := HA2.out.cell 36
      have d36 := HA2'.out.cell 36
      rw [lcells_36 HI.out] at c36 d36
      go_wp2_with fail
      refine (pairsSame ok ok' X.xn X.xk X.xv (fun j => valueSame _) mv mv' wr (RP.keep hX.more (Keeps.of_below hB)) (RP.keep hX'.more (Keeps.of_below hB))).mono ?_
      rintro e3 w3 ⟨rfl, hb3⟩
      go_wp2
      go_ret
      exact ⟨rfl, hB.trans (hb3.mono hB.size)⟩

end Go.Proofs.YtdfiblaboddbjaaGreatDoor.Same
