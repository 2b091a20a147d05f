import Derived.Test.YtdfiblaboddbjaaGreatDoorMagRep
import Derived.Test.YtdfiblaboddbjaaGreatDoorMagBare
import Derived.Test.YtdfiblaboddbjaaGreatDoorProg
import Derived.KernelRfl
import Derived.Handy
import Derived.Deep.RegionHeld3
namespace Go.Proofs.YtdfiblaboddbjaaGreatDoor.Twin
open Go.RowKit Go.Proofs.YtdfiblaboddbjaaGreatDoor.Base Go.Proofs.YtdfiblaboddbjaaGreatDoor.Rep
set_option linter.unusedVariables false
set_option linter.unusedSimpArgs false

theorem infoV : (Tryz.prog.info? 49).map (fun i => (i.zero, i.size, i.bytes)) = some (some (.agg #[.int .i64 0, .int .i64 0, .string .empty, .slice none 0 0, .slice none 0 0]), 5, 80) := by kernel_rfl
theorem infoP : (Tryz.prog.info? 51).map (fun i => (i.zero, i.size, i.bytes)) = some (some (.agg #[.string .empty, .int .i64 0, .int .i64 0, .string .empty, .slice none 0 0, .slice none 0 0]), 6, 96) := by kernel_rfl
theorem sizeV : (Tryz.prog.info? 49).map (·.size) = some 5 := by kernel_rfl

def TwinOk (x : V) : Prop := ∀ (ok : Nat → Prop) (cs : List Value) (w : World), RV w ok x cs →
    Calls Tryz.prog 61 #[.agg cs.toArray] w fun e w' => (∃ cs', e = .returned (.agg cs'.toArray) ∧ RV w' (fun b => w.heap.size ≤ b) x cs') ∧ Below w.heap.size w w'

set_option maxHeartbeats 2000000 in
set_option maxRecDepth 100000 in
theorem pairsTwin (ok : Nat → Prop) (m : Nat) (dk : Nat → ByteArray) (dv : Nat → V) (ih : ∀ j, TwinOk (dv j)) (v : Value) (w : World) (hl : RP w ok m dk dv v) :
    Calls Tryz.prog 39 #[v] w fun e w' => (∃ v', e = .returned v' ∧ RP w' (fun b => w.heap.size ≤ b) m dk dv v') ∧ Below w.heap.size w w' := by
  have HL := Lib.hid hl
  have HI := Lib.hid ih
  clear ih
  obtain ⟨a, c, rfl, hn, ⟨hcm, hn20, -⟩, ha⟩ := hl
  have HA := Lib.hid ha
  clear ha
  go_enter Tryz.func39, Tryz.ntmps39
  go_wp2
  go_loopw [3, 4] (fun v3 v4 wr => ∃ k : Nat, k ≤ m ∧ v4 = .int .i64 k ∧ Below w.heap.size w wr ∧ Hid (∃ C : Nat → List Value, (∀ j, (C j).length = 5) ∧ wr.ownsRow w.heap.size 51 6 v3 k ((List.range k).flatMap fun j => .string (dk j) :: C j) ∧
      ∀ j, j < k → RV wr (fun b => w.heap.size ≤ b ∧ v3.ownBlock ≠ some b) (dv j) (C j))) (fun _ v4 _ => m - (intOf v4).toNat)
  case atStart => exact ⟨0, Nat.zero_le _, rfl, Below.refl _ _, fun _ => List.replicate 5 undef, fun _ => by simp, ⟨rfl, Or.inl ⟨rfl, rfl⟩⟩, fun j hj => by omega⟩
  case round =>
    obtain ⟨k, hk, rfl, hB, HC⟩ := hrel
    have hw0 := hB.size
    by_cases hlt : k < m
    · rcases HA.out with h0' | ⟨B, o, rfl, ha⟩
      · omega
      · obtain ⟨cs, hcell, hsz, hrv⟩ := ha k hlt
        have HK := Lib.hid hcell
        have HR := Lib.hid (RV.keep (Keeps.of_below hB) _ _ hrv)
        have SV := Lib.hid (show (Tryz.prog.info? 49).map (·.size) = some cs.length by rw [hrv.length]; exact sizeV)
        have hra : Hid (wr.rangeAt B (o + k * 6 + 1) cs) := fun j u hj => by
            have := (HK.out.keep (Keeps.of_below hB)).2.2 (j + 1) u (by simpa using hj)
            rw [← this]; congr 2; omega
        clear hcell ha hrv
        go_wp2_with (refine wpList_load_mid rfl 49 _ rfl B (o + k * 6 + 1) rfl cs _ hra.out Tryz.underlying49 rfl SV.out ?_)
        refine (HI.out k ok cs wr HR.out).mono ?_
        rintro e w1 ⟨⟨cs', rfl, hrv'⟩, hb1⟩
        have HR1 := Lib.hid hrv'
        have hb1s := hb1.size
        have hlen' := hrv'.length
        clear hrv'
        have hs := run_storeCells_list (P := Tryz.prog) (w1.alloc (.cells #[.int .i64 0, .int .i64 0, .string ⟨#[]⟩, .slice none 0 0, .slice none 0 0] 49)) w1.heap.size 49 _ cs' (Go.heap_alloc_new _ _) (by rw [HR1.out.length]; rfl) HR1.out.oneCell
        go_wp2_with fail
        obtain ⟨hb2, hB2, hz2⟩ := setRow_new w1 #[.int .i64 0, .int .i64 0, .string ⟨#[]⟩, .slice none 0 0, .slice none 0 0] 49 cs'.toArray
        clear hs
        generalize (w1.alloc (.cells #[.int .i64 0, .int .i64 0, .string ⟨#[]⟩, .slice none 0 0, .slice none 0 0] 49)).setRow w1.heap.size cs'.toArray = w2 at *
        obtain ⟨c0, c1, c2, c3, c4, rfl⟩ := list5 hlen'
        have hk0 : w2.cell? ⟨B, o + k * 6, none⟩ = some (.string (dk k)) := by
          have h := (HK.out.keep (((Keeps.of_below hB).trans (Keeps.of_below hb1)).trans (Keeps.of_below hB2))).cell 0 rfl
          simpa using h
        have d0 : w2.cell? ⟨w1.heap.size, 0, none⟩ = some c0 := by rw [Lib.cell_of_heap hb2]; rfl
        have d1 : w2.cell? ⟨w1.heap.size, 1, none⟩ = some c1 := by rw [Lib.cell_of_heap hb2]; rfl
        have d2 : w2.cell? ⟨w1.heap.size, 2, none⟩ = some c2 := by rw [Lib.cell_of_heap hb2]; rfl
        have d3 : w2.cell? ⟨w1.heap.size, 3, none⟩ = some c3 := by rw [Lib.cell_of_heap hb2]; rfl
        have d4 : w2.cell? ⟨w1.heap.size, 4, none⟩ = some c4 := by rw [Lib.cell_of_heap hb2]; rfl
        have HB2 := Lib.hid hb2
        have hBw2 := (hB.trans (hb1.mono hw0)).trans (hB2.mono (by omega))
        have hw2 := hBw2.size
        have hw12 : w1.heap.size < w2.heap.size := by omega
        have hBlt : B < w2.heap.size := World.block_lt_of_cell? w2 _ hk0
        have HZ2 := Lib.hid hz2
        clear hb2 hlen' hz2
        obtain ⟨C, hC, hown, hrows⟩ := HC.out
        have HO := Lib.hid (ownsRow_below (ownsRow_below hown hb1) hB2)
        have HRW := Lib.hid hrows
        have hki : (k : Int) < (m : Int) := by omega
        have hk00 : (0 : Int) ≤ (k : Int) := by omega
        have HONE : Hid (∀ u ∈ [Value.string (dk k), c0, c1, c2, c3, c4], u.oneCell' = true) := by
          intro u hu
          rcases List.mem_cons.1 hu with rfl | hu
          · rfl
          · exact HR1.out.oneCell u hu
        have hrow : ∀ q, u3.ownBlock = some q → w.heap.size ≤ q ∧ q < wr.heap.size := fun q hq => hown.lt q hq
        have hBw : B < w.heap.size := HK.out.2.1
        have agB : u3.ownBlock ≠ some B := fun e => by have := hrow _ e; omega
        have ag1 : u3.ownBlock ≠ some w1.heap.size := fun e => by have := hrow _ e; omega
        have HROW := Lib.hid hrow
        clear hown hrows hrow
        go_region_held3 (fun w' => w'.cell? ⟨B, o + k * 6, none⟩ = some (.string (dk k)) ∧ w'.cell? ⟨w1.heap.size, 0, none⟩ = some c0 ∧ w'.cell? ⟨w1.heap.size, 1, none⟩ = some c1 ∧ w'.cell? ⟨w1.heap.size, 2, none⟩ = some c2 ∧ w'.cell? ⟨w1.heap.size, 3, none⟩ = some c3 ∧ w'.cell? ⟨w1.heap.size, 4, none⟩ = some c4)
          (first
            | go_keep
            | (go_split_ands
               refine ⟨?_, ?_, ?_, ?_, ?_, ?_⟩
               · (rw [hg3.cell_far _ (by simp; omega) (Ne.symm agB)]; assumption)
               · (rw [hg3.cell_far _ (by simp; omega) (Ne.symm ag1)]; assumption)
               · (rw [hg3.cell_far _ (by simp; omega) (Ne.symm ag1)]; assumption)
               · (rw [hg3.cell_far _ (by simp; omega) (Ne.symm ag1)]; assumption)
               · (rw [hg3.cell_far _ (by simp; omega) (Ne.symm ag1)]; assumption)
               · (rw [hg3.cell_far _ (by simp; omega) (Ne.symm ag1)]; assumption)))
          ((refine step_appL rfl _ _ 27 rfl w.heap.size 51 _ 6 96 infoP rfl (by decide) Tryz.underlying27 u3 k _ rfl (HO.out.drew.alloc _) ⟨w2.heap.size, 0, none⟩ 1 1 [.string (dk k), c0, c1, c2, c3, c4] rfl rfl (news_block (cs := #[.string (dk k), c0, c1, c2, c3, c4]) (Go.heap_alloc_new _ _)) HONE.out (by decide) (by unfold maxLen; omega) (by omega) (by simp; omega) ?_; intro g cap w3 ho3 hg3 hat hlt3))
        have HO3 := Lib.hid ho3
        have hg3' : w2.grownBy w3 u3.ownBlock := ⟨hg3.os, hg3.tape, hg3.output, by have := hg3.size; simp at this; omega, fun q hq hn => (hg3.block q (by simp; omega) hn).trans (Below.heap_alloc _ _ _ (by simpa using hq))⟩
        have hgl : g = w2.heap.size + 1 ∨ u3.ownBlock = some g := by
          rcases hat with h | h
          · exact Or.inr h
          · left; simpa using h
        have HG := Lib.hid hgl
        have H3 := Lib.hid hg3'
        clear ho3 hat hg3 hg3' hgl
        go_wp2
        have hB3 : Below w.heap.size w w3 := hBw2.grown H3.out (by omega) (fun q hq => (HROW.out q hq).1)
        refine ⟨⟨k + 1, by omega, by go_num, hB3, fun j => if j = k then [c0, c1, c2, c3, c4] else C j, fun j => ?_, ?_, fun j hj => ?_⟩, by simp [intOf]; omega⟩
        · by_cases e : j = k
          · simp [e]
          · simp [e, hC]
        · rw [flat_snoc, flat_congr _ (fun j => .string (dk j) :: C j) k (fun j hj => by simp [show j ≠ k by omega])]
          simpa using HO3.out
        · have hkk : Keeps (fun b => w.heap.size ≤ b ∧ u3.ownBlock ≠ some b) w2 w3 := Keeps.grown H3.out (fun q hq h => h.2 hq)
          by_cases e : j = k
          · subst e
            simp only [if_true]
            have h1 : RV w1 (fun b => (w.heap.size ≤ b ∧ u3.ownBlock ≠ some b) ∧ b ≠ g) (dv j) [c0, c1, c2, c3, c4] := RV.mono (fun q hq hl => by
              refine ⟨⟨by omega, fun e => by have := HROW.out _ e; omega⟩, fun e => ?_⟩
              subst e
              rcases HG.out with h | h
              · omega
              · have := HROW.out _ h; omega) _ _ HR1.out
            have h2 := RV.keep (((Keeps.of_below hB2)).trans (hkk.mono (fun q (hq : (w.heap.size ≤ q ∧ u3.ownBlock ≠ some q) ∧ q ≠ g) => hq.1))) _ _ h1
            exact RV.mono (fun q hq _ => ⟨hq.1.1, fun e => hq.2 (by simpa [Value.ownBlock] using e.symm)⟩) _ _ h2
          · simp only [e, if_false]
            have h1 : RV wr (fun b => (w.heap.size ≤ b ∧ u3.ownBlock ≠ some b) ∧ b ≠ g) (dv j) (C j) := RV.mono (fun q hq hl => by
              refine ⟨hq, fun e => ?_⟩
              subst e
              rcases HG.out with h | h
              · omega
              · exact hq.2 h) _ _ (HRW.out j (by omega))
            have h2 := RV.keep (((Keeps.of_below hb1).trans (Keeps.of_below hB2)).trans (hkk.mono (fun q (hq : (w.heap.size ≤ q ∧ u3.ownBlock ≠ some q) ∧ q ≠ g) => hq.1))) _ _ h1
            exact RV.mono (fun q hq _ => ⟨hq.1.1, fun e => hq.2 (by simpa [Value.ownBlock] using e.symm)⟩) _ _ h2
    · have hkm : k = m := by omega
      go_wp2
      go_ret
      obtain ⟨C, hC, hown, hrows⟩ := HC.out
      subst hkm
      have hS := owns_at (fun j => Value.string (dk j) :: C j) (fun j => by simp [hC]) hown (by decide) hn20
      refine ⟨⟨_, rfl, ?_⟩, hB⟩
      refine hS.mono ?_
      rintro b o ⟨rfl, hb, hbl, hob, hat⟩ j hj
      refine ⟨C j, ⟨hb, hbl, by simpa using hat j hj⟩, ?_, RV.mono (fun q hq _ => hq.1) _ _ (hrows j hj)⟩
      rcases HA.out with h0' | ⟨B, o, rfl, ha⟩
      · omega
      · obtain ⟨cs, _, hsz, _⟩ := ha j hj
        exact hsz

set_option maxHeartbeats 2000000 in
set_option maxRecDepth 100000 in
theorem valueTwin (x : V) : TwinOk x := by
  induction x with
  | leaf => intro ok cs w hrv; exact (hrv : False).elim
  | mk k i s n l m dk dv ihl ihd =>
    intro ok cs w hrv
    have HIL := Lib.hid ihl
    have HID := Lib.hid ihd
    clear ihl ihd
    obtain ⟨lv, xv, rfl, hs, hl, hx⟩ := hrv
    have HL := Lib.hid hl
    have HX := Lib.hid hx
    obtain ⟨a, c, rfl, hn, ⟨hcm, hn20, -⟩, ha⟩ := hl
    obtain ⟨a', c', rfl, hn', ⟨hcm', hn20', -⟩, ha'⟩ := hx
    have HA := Lib.hid ha
    clear ha ha'
    go_enter Tryz.func61, Tryz.ntmps61
    go_wp2_with fail
    have hB0 : Below w.heap.size w ((w.alloc (.cells #[.int .i64 k, .int .i64 i, .string s, .slice a n c, .slice a' m c'] 49)).alloc (.cells #[.int .i64 0, .int .i64 0, .string ⟨#[]⟩, .slice none 0 0, .slice none 0 0] 49)) := ((Below.refl _ _).alloc (Nat.le_refl _) _).alloc (by simp) _
    have hbx := heap_alloc2_old w (.cells #[.int .i64 k, .int .i64 i, .string s, .slice a n c, .slice a' m c'] 49) (.cells #[.int .i64 0, .int .i64 0, .string ⟨#[]⟩, .slice none 0 0, .slice none 0 0] 49)
    have hbr := heap_alloc2_new w (.cells #[.int .i64 k, .int .i64 i, .string s, .slice a n c, .slice a' m c'] 49) (.cells #[.int .i64 0, .int .i64 0, .string ⟨#[]⟩, .slice none 0 0, .slice none 0 0] 49)
    have hz : w.heap.size + 1 < ((w.alloc (.cells #[.int .i64 k, .int .i64 i, .string s, .slice a n c, .slice a' m c'] 49)).alloc (.cells #[.int .i64 0, .int .i64 0, .string ⟨#[]⟩, .slice none 0 0, .slice none 0 0] 49)).heap.size := by simp
    generalize (w.alloc (.cells #[.int .i64 k, .int .i64 i, .string s, .slice a n c, .slice a' m c'] 49)).alloc (.cells #[.int .i64 0, .int .i64 0, .string ⟨#[]⟩, .slice none 0 0, .slice none 0 0] 49) = W0 at *
    have d0 : W0.cell? ⟨w.heap.size, 0, none⟩ = some (.int .i64 k) := by rw [Lib.cell_of_heap hbx]; rfl
    have d1 : W0.cell? ⟨w.heap.size, 1, none⟩ = some (.int .i64 i) := by rw [Lib.cell_of_heap hbx]; rfl
    have d2 : W0.cell? ⟨w.heap.size, 2, none⟩ = some (.string s) := by rw [Lib.cell_of_heap hbx]; rfl
    have d4 : W0.cell? ⟨w.heap.size, 4, none⟩ = some (.slice a' m c') := by rw [Lib.cell_of_heap hbx]; rfl
    have HBX := Lib.hid hbx
    have HBR := Lib.hid hbr
    clear hbx hbr
    have K0 : ∀ w1 : World, (w1.heap[w.heap.size]? = some (.cells #[.int .i64 k, .int .i64 i, .string s, .slice a n c, .slice a' m c'] 49 (0, 0))) → (w1.cell? ⟨w.heap.size, 0, none⟩ = some (.int .i64 k) ∧ w1.cell? ⟨w.heap.size, 1, none⟩ = some (.int .i64 i) ∧ w1.cell? ⟨w.heap.size, 2, none⟩ = some (.string s) ∧ w1.cell? ⟨w.heap.size, 4, none⟩ = some (.slice a' m c')) := fun w1 h =>
      ⟨by rw [Lib.cell_of_heap h]; rfl, by rw [Lib.cell_of_heap h]; rfl, by rw [Lib.cell_of_heap h]; rfl, by rw [Lib.cell_of_heap h]; rfl⟩
    have K1 : ∀ w1 : World, Below W0.drew.heap.size W0.drew w1 → w1.heap[w.heap.size]? = some (.cells #[.int .i64 k, .int .i64 i, .string s, .slice a n c, .slice a' m c'] 49 (0, 0)) ∧ w.heap.size + 1 < w1.heap.size := fun w1 h =>
      ⟨(h.block w.heap.size (by simp; omega)).trans HBX.out, by have := h.size; simp at this; omega⟩
    have K2 : ∀ w1 : World, Below (W0.alloc (.cells #[.int .i64 0, .int .i64 0, .string ⟨#[]⟩, .slice none 0 0, .slice none 0 0] 49)).drew.heap.size (W0.alloc (.cells #[.int .i64 0, .int .i64 0, .string ⟨#[]⟩, .slice none 0 0, .slice none 0 0] 49)).drew w1 → w1.heap[w.heap.size]? = some (.cells #[.int .i64 k, .int .i64 i, .string s, .slice a n c, .slice a' m c'] 49 (0, 0)) ∧ W0.heap.size < w1.heap.size ∧ w1.heap[W0.heap.size]? = some (.cells #[.int .i64 0, .int .i64 0, .string ⟨#[]⟩, .slice none 0 0, .slice none 0 0] 49 (0, 0)) := fun w1 h =>
      ⟨(h.block w.heap.size (by simp; omega)).trans ((Below.heap_alloc W0 _ _ (by omega)).trans HBX.out), by have := h.size; simp at this; omega, (h.block W0.heap.size (by simp)).trans (Go.heap_alloc_new W0 _)⟩
    have K3 : ∀ (w1 : World) (ob : Obj), w.heap.size < w1.heap.size → w1.heap[w.heap.size]? = some (.cells #[.int .i64 k, .int .i64 i, .string s, .slice a n c, .slice a' m c'] 49 (0, 0)) → (w1.alloc ob).heap[w.heap.size]? = some (.cells #[.int .i64 k, .int .i64 i, .string s, .slice a n c, .slice a' m c'] 49 (0, 0)) := fun w1 ob h h' =>
      (Below.heap_alloc w1 ob _ h).trans h'
    have P1 : RP W0.drew ok m dk dv (.slice a' m c') := RP.keep HX.out (Keeps.of_below hB0.drew)
    have P2 : RP (W0.alloc (.cells #[.int .i64 0, .int .i64 0, .string ⟨#[]⟩, .slice none 0 0, .slice none 0 0] 49)).drew ok m dk dv (.slice a' m c') := RP.keep HX.out (Keeps.of_below (hB0.alloc (by omega) _).drew)
    have K4 : ∀ (w1 : World) (j : Nat) (v : Value), w1.heap[w.heap.size]? = some (.cells #[.int .i64 k, .int .i64 i, .string s, .slice a n c, .slice a' m c'] 49 (0, 0)) → (w1.setCell ⟨W0.heap.size, j, none⟩ v).heap[w.heap.size]? = some (.cells #[.int .i64 k, .int .i64 i, .string s, .slice a n c, .slice a' m c'] 49 (0, 0)) := fun w1 j v h =>
      (Below.heap_setCell w1 _ v w.heap.size (by simp; omega)).trans h
    have HK4 := Lib.hid K4
    clear K4
    have HK0 := Lib.hid K0
    have HK1 := Lib.hid K1
    have HK2 := Lib.hid K2
    have HK3 := Lib.hid K3
    have HP1 := Lib.hid P1
    have HP2 := Lib.hid P2
    clear K0 K1 K2 K3 P1 P2
    go_region_held3 (fun w' => w'.cell? ⟨w.heap.size, 0, none⟩ = some (.int .i64 k) ∧ w'.cell? ⟨w.heap.size, 1, none⟩ = some (.int .i64 i) ∧ w'.cell? ⟨w.heap.size, 2, none⟩ = some (.string s) ∧ w'.cell? ⟨w.heap.size, 4, none⟩ = some (.slice a' m c'))
      (first
        | go_keep
        | (with_reducible exact HK0.out _ HBW1.out)
        | (with_reducible exact HK0.out _ (HK3.out _ _ hlt1 HBW1.out))
        | (with_reducible exact HK0.out _ (HK4.out _ _ _ (HK4.out _ _ _ (HK4.out _ _ _ (HK4.out _ _ _ (HK4.out _ _ _ HBW1.out)))))))
      (first
        | (go_at_call 39; (with_reducible refine (pairsTwin ok m dk dv (fun j => HID.out j) (.slice a' m c') W0.drew HP1.out).mono ?_); rintro e w1 ⟨⟨v', rfl, hp⟩, hb1⟩; have HP := Lib.hid hp; obtain ⟨a2, c2, rfl, _, _, _⟩ := hp; have HBW1 := Lib.hid (HK1.out w1 hb1).1; have hz1 := (HK1.out w1 hb1).2; have hlt1 : w.heap.size < w1.heap.size := Nat.lt_of_succ_lt hz1; have HB1 := Lib.hid hb1; clear hb1)
        | (go_at_call 39; (with_reducible refine (pairsTwin ok m dk dv (fun j => HID.out j) (.slice a' m c') (W0.alloc (.cells #[.int .i64 0, .int .i64 0, .string ⟨#[]⟩, .slice none 0 0, .slice none 0 0] 49)).drew HP2.out).mono ?_); rintro e w1 ⟨⟨v', rfl, hp⟩, hb1⟩; have HP := Lib.hid hp; obtain ⟨a2, c2, rfl, _, _, _⟩ := hp; have HBW1 := Lib.hid (HK2.out w1 hb1).1; have hz1 := (HK2.out w1 hb1).2.1; have hb3 := (HK2.out w1 hb1).2.2; have hlt1 : w.heap.size < w1.heap.size := Nat.lt_trans (Nat.lt_of_succ_lt hz) hz1
           have e0 : w1.cell? ⟨W0.heap.size, 0, none⟩ = some (.int .i64 0) := Lib.cell_of_heap hb3 0
           have e1 : w1.cell? ⟨W0.heap.size, 1, none⟩ = some (.int .i64 0) := Lib.cell_of_heap hb3 1
           have e2 : w1.cell? ⟨W0.heap.size, 2, none⟩ = some (.string ⟨#[]⟩) := Lib.cell_of_heap hb3 2
           have e3 : w1.cell? ⟨W0.heap.size, 3, none⟩ = some (.slice none 0 0) := Lib.cell_of_heap hb3 3
           have e4 : w1.cell? ⟨W0.heap.size, 4, none⟩ = some (.slice none 0 0) := Lib.cell_of_heap hb3 4
           have f0 := fun j => Lib.frozen_of_heap hb3 j
           have HB3 := Lib.hid hb3
           have HB1 := Lib.hid hb1
           clear hb3 hb1))
    obtain ⟨W2, hW2⟩ : ∃ W2, w1.alloc (.cells #[.int .i64 k, .int .i64 i, .string s, .slice none 0 0, .slice a2 m c2] 49) = W2 := ⟨_, rfl⟩
    obtain ⟨b3, hb3e⟩ : ∃ b3, w1.heap.size = b3 := ⟨_, rfl⟩
    have hBz := HB1.out.size
    have F1 : Hid (W2.heap[b3]? = some (.cells #[.int .i64 k, .int .i64 i, .string s, .slice none 0 0, .slice a2 m c2] 49 (0, 0))) := by rw [← hW2, ← hb3e]; exact Go.heap_alloc_new _ _
    have F2 : Hid (W2.heap[w.heap.size]? = some (.cells #[.int .i64 k, .int .i64 i, .string s, .slice a n c, .slice a' m c'] 49 (0, 0))) := by rw [← hW2]; exact (Below.heap_alloc w1 _ _ hlt1).trans HBW1.out
    have F3 : Hid (W2.heap[w.heap.size + 1]? = some (.cells #[.int .i64 0, .int .i64 0, .string ⟨#[]⟩, .slice none 0 0, .slice none 0 0] 49 (0, 0))) := by rw [← hW2]; exact (Below.heap_alloc w1 _ _ hz1).trans ((HB1.out.block _ (by simp; omega)).trans HBR.out)
    have F4 : Below w.heap.size w W2 := by rw [← hW2]; exact ((hB0.drew).trans (HB1.out.mono (by simp; omega))).alloc (by omega) _
    have F5 : Hid (RP W2 (fun b => w.heap.size + 2 ≤ b ∧ b ≠ b3) m dk dv (.slice a2 m c2)) := by
      rw [← hW2, ← hb3e]
      exact RP.keep (RP.mono HP.out (fun q hq hl => ⟨by simp at hq; omega, by omega⟩)) ((Keeps.refl _ _).alloc _)
    have F6 : w.heap.size + 1 < b3 := by omega
    clear hz1 hlt1 HBW1 HP HB1 hBz
    rw [hW2]
    simp only [hb3e]
    clear hW2 hb3e
    rotate_left
    obtain ⟨W2, hW2⟩ : ∃ W2, (((((w1.setCell ⟨W0.heap.size, 0, none⟩ (.int .i64 k)).setCell ⟨W0.heap.size, 1, none⟩ (.int .i64 i)).setCell ⟨W0.heap.size, 2, none⟩ (.string s)).setCell ⟨W0.heap.size, 3, none⟩ (.slice none 0 0)).setCell ⟨W0.heap.size, 4, none⟩ (.slice a2 m c2)) = W2 := ⟨_, rfl⟩
    obtain ⟨b3, hb3e⟩ : ∃ b3, W0.heap.size = b3 := ⟨_, rfl⟩
    have hBz := HB1.out.size
    have F1 : Hid (W2.heap[b3]? = some (.cells #[.int .i64 k, .int .i64 i, .string s, .slice none 0 0, .slice a2 m c2] 49 (0, 0))) := by
      rw [← hW2, ← hb3e]
      exact Go.heap_setCell_same _ _ 4 _ _ _ (Go.heap_setCell_same _ _ 3 _ _ _ (Go.heap_setCell_same _ _ 2 _ _ _ (Go.heap_setCell_same _ _ 1 _ _ _ (Go.heap_setCell_same _ _ 0 _ _ _ HB3.out))))
    have F2 : Hid (W2.heap[w.heap.size]? = some (.cells #[.int .i64 k, .int .i64 i, .string s, .slice a n c, .slice a' m c'] 49 (0, 0))) := by rw [← hW2]; exact HK4.out _ _ _ (HK4.out _ _ _ (HK4.out _ _ _ (HK4.out _ _ _ (HK4.out _ _ _ HBW1.out))))
    have F3 : Hid (W2.heap[w.heap.size + 1]? = some (.cells #[.int .i64 0, .int .i64 0, .string ⟨#[]⟩, .slice none 0 0, .slice none 0 0] 49 (0, 0))) := by
      rw [← hW2]
      have hn : w.heap.size + 1 ≠ W0.heap.size := by omega
      rw [Below.heap_setCell _ _ _ _ hn, Below.heap_setCell _ _ _ _ hn, Below.heap_setCell _ _ _ _ hn, Below.heap_setCell _ _ _ _ hn, Below.heap_setCell _ _ _ _ hn]
      exact (HB1.out.block _ (by simp; omega)).trans ((Below.heap_alloc W0 _ _ hz).trans HBR.out)
    have F4 : Below w.heap.size w W2 := by
      rw [← hW2]
      have h0 := ((hB0.alloc (by omega) _).drew).trans (HB1.out.mono (by simp; omega))
      have hle : w.heap.size ≤ W0.heap.size := by omega
      exact ((((h0.setCell (p := ⟨W0.heap.size, 0, none⟩) hle _).setCell (p := ⟨W0.heap.size, 1, none⟩) hle _).setCell (p := ⟨W0.heap.size, 2, none⟩) hle _).setCell (p := ⟨W0.heap.size, 3, none⟩) hle _).setCell (p := ⟨W0.heap.size, 4, none⟩) hle _
    have F5 : Hid (RP W2 (fun b => w.heap.size + 2 ≤ b ∧ b ≠ b3) m dk dv (.slice a2 m c2)) := by
      rw [← hW2, ← hb3e]
      have hne : ¬ (w.heap.size + 2 ≤ W0.heap.size ∧ W0.heap.size ≠ W0.heap.size) := fun h => h.2 rfl
      exact RP.keep (RP.mono HP.out (fun q hq hl => ⟨by simp at hq; omega, by simp at hq; omega⟩)) ((((((Keeps.refl _ _).setCell _ _ hne).setCell _ _ hne).setCell _ _ hne).setCell _ _ hne).setCell _ _ hne)
    have F6 : w.heap.size + 1 < b3 := by omega
    clear e0 e1 e2 e3 e4 f0 HB3 hz1 hlt1 HBW1 HP HB1 hBz
    rw [hW2]
    simp only [hb3e]
    clear hW2 hb3e
    all_goals
      go_wp2
      go_loopw [4] (fun v4 wr => ∃ q : Nat, q ≤ n ∧ v4 = .int .i64 q ∧ Below w.heap.size w wr ∧ b3 < wr.heap.size ∧ Hid (wr.heap[w.heap.size]? = some (.cells #[.int .i64 k, .int .i64 i, .string s, .slice a n c, .slice a' m c'] 49 (0, 0))) ∧ Hid (wr.heap[w.heap.size + 1]? = some (.cells #[.int .i64 0, .int .i64 0, .string ⟨#[]⟩, .slice none 0 0, .slice none 0 0] 49 (0, 0))) ∧
        Hid (∃ (v3 : Value) (C : Nat → List Value), (∀ j, (C j).length = 5) ∧ wr.heap[b3]? = some (.cells #[.int .i64 k, .int .i64 i, .string s, v3, .slice a2 m c2] 49 (0, 0)) ∧ wr.ownsRow (b3 + 1) 49 5 v3 q ((List.range q).flatMap C) ∧
          (∀ j, j < q → RV wr (fun b => w.heap.size + 2 ≤ b ∧ b ≠ b3 ∧ v3.ownBlock ≠ some b) (l j) (C j)) ∧ RP wr (fun b => w.heap.size + 2 ≤ b ∧ b ≠ b3 ∧ v3.ownBlock ≠ some b) m dk dv (.slice a2 m c2))) (fun v4 _ => n - (intOf v4).toNat)
      case atStart => exact ⟨0, Nat.zero_le _, rfl, F4, (Array.getElem?_eq_some_iff.1 F1.out).1, F2, F3, .slice none 0 0, fun _ => List.replicate 5 undef, fun _ => by simp, F1.out, ⟨rfl, Or.inl ⟨rfl, rfl⟩⟩, fun j hj => by omega, RP.mono F5.out (fun b hb _ => ⟨by omega, hb.2, by simp [Value.ownBlock]⟩)⟩
      case round =>
        obtain ⟨q, hq, rfl, hB, hb3l, G2, G3, GS⟩ := hrel
        have c3 : wr.cell? ⟨w.heap.size, 3, none⟩ = some (.slice a n c) := by rw [Lib.cell_of_heap G2.out]; rfl
        have hwr := hB.size
        by_cases hlt : q < n
        · rcases HA.out with h0' | ⟨B, o, rfl, ha⟩
          · omega
          · obtain ⟨cs, hcell, hrv⟩ := ha q hlt
            have SV := Lib.hid (show (Tryz.prog.info? 49).map (·.size) = some cs.length by rw [hrv.length]; exact sizeV)
            have HR2 := Lib.hid (RV.keep (Keeps.of_below hB) _ _ hrv)
            have HC := Lib.hid (hcell.keep (Keeps.of_below hB))
            clear ha hcell hrv
            go_wp2_with (refine wpList_load_mid rfl 49 _ rfl B (o + q * 5) rfl cs _ HC.out.2.2 Tryz.underlying49 rfl SV.out ?_)
            refine (HIL.out q ok cs wr HR2.out).mono ?_
            rintro e w1 ⟨⟨cs', rfl, hrv'⟩, hb1⟩
            have HR1 := Lib.hid hrv'
            have hb1s := hb1.size
            have hlen' := hrv'.length
            clear hrv' c3
            have hs := run_storeCells_list (P := Tryz.prog) (w1.alloc (.cells #[.int .i64 0, .int .i64 0, .string ⟨#[]⟩, .slice none 0 0, .slice none 0 0] 49)) w1.heap.size 49 _ cs' (Go.heap_alloc_new _ _) (by rw [HR1.out.length]; rfl) HR1.out.oneCell
            obtain ⟨hb2, hB2, hz2⟩ := setRow_new w1 #[.int .i64 0, .int .i64 0, .string ⟨#[]⟩, .slice none 0 0, .slice none 0 0] 49 cs'.toArray
            obtain ⟨w2, hW2⟩ : ∃ w2, (w1.alloc (.cells #[.int .i64 0, .int .i64 0, .string ⟨#[]⟩, .slice none 0 0, .slice none 0 0] 49)).setRow w1.heap.size cs'.toArray = w2 := ⟨_, rfl⟩
            rw [hW2] at hs hb2 hB2 hz2
            obtain ⟨v3, C, hC, hb3, hown, hrows, hrp⟩ := GS.out
            have hrow : ∀ z, v3.ownBlock = some z → b3 + 1 ≤ z ∧ z < wr.heap.size := fun z hz => hown.lt z hz
            have agb3 : v3.ownBlock ≠ some b3 := fun e => by have := hrow _ e; omega
            have hb32 : w2.heap[b3]? = some (.cells #[.int .i64 k, .int .i64 i, .string s, v3, .slice a2 m c2] 49 (0, 0)) := by
              rw [hB2.block b3 (by omega), hb1.block b3 hb3l]; exact hb3
            have e33 : w2.cell? ⟨b3, 3, none⟩ = some v3 := by rw [Lib.cell_of_heap hb32]; rfl
            have hw2s : wr.heap.size < w2.heap.size := by omega
            have hw12 : w1.heap.size < w2.heap.size := by omega
            have hbl : b3 < w2.heap.size := by omega
            have HB3 := Lib.hid hb32
            have HOW := Lib.hid (ownsRow_below (ownsRow_below hown hb1) hB2)
            have HRS := Lib.hid hrows
            have HRP := Lib.hid hrp
            have HROW := Lib.hid hrow
            have HZ2 := Lib.hid hz2
            have HBB2 := Lib.hid hb2
            have HLEN := Lib.hid hlen'
            have SV' := Lib.hid (show (Tryz.prog.info? 49).map (·.size) = some cs'.toArray.size by simp [hlen', sizeV])
            clear hb32 hown hrows hrp hrow hz2 hb2 hb3
            go_wp2_with (first
              | (refine wpList_load_row rfl 49 _ rfl w1.heap.size rfl 49 cs'.toArray (0, 0) _ HBB2.out Tryz.underlying49 rfl SV'.out ?_; clear hs hlen'; obtain ⟨x0, x1, x2, x3, x4, rfl⟩ := list5 HLEN.out)
              | (at_builtin; refine wpList_appL rfl _ _ 47 rfl (b3 + 1) 49 _ 5 80 infoV rfl (by decide) Tryz.underlying47 v3 q _ rfl (HOW.out.alloc _) ⟨w2.heap.size, 0, none⟩ 1 1 [x0, x1, x2, x3, x4] rfl rfl (news_block (cs := #[x0, x1, x2, x3, x4]) (Go.heap_alloc_new _ _)) HR1.out.oneCell (by decide) (by unfold maxLen; omega) (by omega) (by simp; omega) ?_))
            intro g cap w3 ho3 hg3 hat hlt3
            have hg3' : w2.grownBy w3 v3.ownBlock := ⟨hg3.os, hg3.tape, hg3.output, by have := hg3.size; simp at this; omega, fun z hz hn => (hg3.block z (by simp; omega) hn).trans (Below.heap_alloc _ _ _ (by simpa using hz))⟩
            have hgl : g = w2.heap.size + 1 ∨ v3.ownBlock = some g := by
              rcases hat with h | h
              · exact Or.inr h
              · left; simpa using h
            have hb33 : w3.heap[b3]? = some (.cells #[.int .i64 k, .int .i64 i, .string s, v3, .slice a2 m c2] 49 (0, 0)) := (hg3'.block b3 hbl (Ne.symm agb3)).trans HB3.out
            have e34 : w3.cell? ⟨b3, 3, none⟩ = some v3 := by rw [Lib.cell_of_heap hb33]; rfl
            have f34 : w3.frozen? ⟨b3, 3, none⟩ = false := Lib.frozen_of_heap hb33 3
            have HB33 := Lib.hid hb33
            have HO3 := Lib.hid ho3
            have HG := Lib.hid hgl
            have H3 := Lib.hid hg3'
            clear hb33 ho3 hgl hg3 hg3' hat e33
            go_wp2
            have hw3 := H3.out.size
            have hB2' : Below w.heap.size w w2 := (hB.trans (hb1.mono hwr)).trans (hB2.mono (by omega))
            have hB3' : Below w.heap.size w w3 := hB2'.grown H3.out (by omega) (fun z hz => by have := HROW.out z hz; omega)
            have hgb : g ≠ b3 := fun e => by rcases HG.out with h | h; omega; exact agb3 (e ▸ h)
            have hk3 : Keeps (fun b => (w.heap.size + 2 ≤ b ∧ b ≠ b3 ∧ v3.ownBlock ≠ some b) ∧ b ≠ g) w2 (w3.setCell ⟨b3, 3, none⟩ (.slice (some ⟨g, 0, none⟩) (q + 1) cap)) :=
              (Keeps.grown H3.out (fun z hz h => h.1.2.2 hz)).setCell _ _ (fun h => h.1.2.1 rfl)
            have hkr : Keeps (fun b => (w.heap.size + 2 ≤ b ∧ b ≠ b3 ∧ v3.ownBlock ≠ some b) ∧ b ≠ g) wr w2 := (Keeps.of_below hb1).trans (Keeps.of_below hB2)
            have hup : ∀ z, (w.heap.size + 2 ≤ z ∧ z ≠ b3 ∧ v3.ownBlock ≠ some z) → z < wr.heap.size → (w.heap.size + 2 ≤ z ∧ z ≠ b3 ∧ v3.ownBlock ≠ some z) ∧ z ≠ g := fun z hz hl => ⟨hz, fun e => by
              subst e
              rcases HG.out with h | h
              · omega
              · exact hz.2.2 h⟩
            have hdn : ∀ z, ((w.heap.size + 2 ≤ z ∧ z ≠ b3 ∧ v3.ownBlock ≠ some z) ∧ z ≠ g) → z < (w3.setCell ⟨b3, 3, none⟩ (.slice (some ⟨g, 0, none⟩) (q + 1) cap)).heap.size → w.heap.size + 2 ≤ z ∧ z ≠ b3 ∧ (Value.slice (some ⟨g, 0, none⟩) (q + 1) cap).ownBlock ≠ some z := fun z hz _ => ⟨hz.1.1, hz.1.2.1, fun e => hz.2 (by simpa [Value.ownBlock] using e.symm)⟩
            have hin : ∀ z, z ≠ b3 → z < w2.heap.size → v3.ownBlock ≠ some z → (w3.setCell ⟨b3, 3, none⟩ (.slice (some ⟨g, 0, none⟩) (q + 1) cap)).heap[z]? = w2.heap[z]? := fun z h1 h2 h3 => (Below.heap_setCell w3 ⟨b3, 3, none⟩ _ z h1).trans (H3.out.block z h2 (Ne.symm h3))
            have hnr : ∀ z, z < b3 → v3.ownBlock ≠ some z := fun z hz e => by have := HROW.out z e; omega
            refine ⟨⟨q + 1, by omega, by go_num, hB3'.setCell (p := ⟨b3, 3, none⟩) (by simp; omega) _, by simp; omega, ?_, ?_, .slice (some ⟨g, 0, none⟩) (q + 1) cap, fun j => if j = q then [x0, x1, x2, x3, x4] else C j, ?_, ?_, ?_, ?_, ?_⟩, by simp [intOf]; omega⟩
            · exact (hin w.heap.size (by omega) (by omega) (hnr _ (by omega))).trans ((hB2.block _ (by omega)).trans ((hb1.block _ (by omega)).trans G2.out))
            · exact (hin (w.heap.size + 1) (by omega) (by omega) (hnr _ (by omega))).trans ((hB2.block _ (by omega)).trans ((hb1.block _ (by omega)).trans G3.out))
            · intro j
              by_cases e : j = q
              · simp [e]
              · simp [e, hC]
            · exact Go.heap_setCell_same w3 b3 3 _ _ _ HB33.out
            · rw [flat_snoc, flat_congr _ C q (fun j hj => by simp [show j ≠ q by omega])]
              have := ownsRow_setCell_below HO3.out (a := ⟨b3, 3, none⟩) (by simp) (.slice (some ⟨g, 0, none⟩) (q + 1) cap)
              simpa using this
            · intro j hj
              by_cases e : j = q
              · subst e
                simp only [if_true]
                have h1 : RV w1 (fun b => (w.heap.size + 2 ≤ b ∧ b ≠ b3 ∧ v3.ownBlock ≠ some b) ∧ b ≠ g) (l j) [x0, x1, x2, x3, x4] := RV.mono (fun z hz hl => by
                  refine ⟨⟨by omega, by omega, fun e => by have := HROW.out _ e; omega⟩, fun e => ?_⟩
                  subst e
                  rcases HG.out with h | h
                  · omega
                  · have := HROW.out _ h; omega) _ _ HR1.out
                exact RV.mono hdn _ _ (RV.keep ((Keeps.of_below hB2).trans hk3) _ _ h1)
              · simp only [e, if_false]
                exact RV.mono hdn _ _ (RV.keep (hkr.trans hk3) _ _ (RV.mono hup _ _ (HRS.out j (by omega))))
            · exact RP.mono (RP.keep (RP.mono HRP.out hup) (hkr.trans hk3)) hdn
        · have hqn : q = n := by omega
          obtain ⟨v3, C, hC, hb3, hown, hrows, hrp⟩ := GS.out
          have hS := owns_at C hC hown (by decide) (by omega)
          have HS := Lib.hid hS
          obtain ⟨a3, cc3, rfl, _, _, _⟩ := hS
          have e0 : wr.cell? ⟨b3, 0, none⟩ = some (.int .i64 k) := by rw [Lib.cell_of_heap hb3]; rfl
          have e1 : wr.cell? ⟨b3, 1, none⟩ = some (.int .i64 i) := by rw [Lib.cell_of_heap hb3]; rfl
          have e2 : wr.cell? ⟨b3, 2, none⟩ = some (.string s) := by rw [Lib.cell_of_heap hb3]; rfl
          have e3 : wr.cell? ⟨b3, 3, none⟩ = some (.slice a3 q cc3) := by rw [Lib.cell_of_heap hb3]; rfl
          have e4 : wr.cell? ⟨b3, 4, none⟩ = some (.slice a2 m c2) := by rw [Lib.cell_of_heap hb3]; rfl
          have g0 : ∀ j, wr.frozen? ⟨w.heap.size + 1, j, none⟩ = false := fun j => Lib.frozen_of_heap G3.out j
          have r0 : wr.cell? ⟨w.heap.size + 1, 0, none⟩ = some (.int .i64 0) := by rw [Lib.cell_of_heap G3.out]; rfl
          have r1 : wr.cell? ⟨w.heap.size + 1, 1, none⟩ = some (.int .i64 0) := by rw [Lib.cell_of_heap G3.out]; rfl
          have r2 : wr.cell? ⟨w.heap.size + 1, 2, none⟩ = some (.string ⟨#[]⟩) := by rw [Lib.cell_of_heap G3.out]; rfl
          have r3 : wr.cell? ⟨w.heap.size + 1, 3, none⟩ = some (.slice none 0 0) := by rw [Lib.cell_of_heap G3.out]; rfl
          have r4 : wr.cell? ⟨w.heap.size + 1, 4, none⟩ = some (.slice none 0 0) := by rw [Lib.cell_of_heap G3.out]; rfl
          have HQ := Lib.hid hqn
          have HRS := Lib.hid hrows
          have HRP := Lib.hid hrp
          clear hqn hb3 hown hrows hrp
          go_wp2
          have hf : (((((wr.setCell ⟨w.heap.size + 1, 0, none⟩ (.int .i64 k)).setCell ⟨w.heap.size + 1, 1, none⟩ (.int .i64 i)).setCell ⟨w.heap.size + 1, 2, none⟩ (.string s)).setCell ⟨w.heap.size + 1, 3, none⟩ (.slice a3 q cc3)).setCell ⟨w.heap.size + 1, 4, none⟩ (.slice a2 m c2)).heap[w.heap.size + 1]? = some (.cells #[.int .i64 k, .int .i64 i, .string s, .slice a3 q cc3, .slice a2 m c2] 49 (0, 0)) :=
            Go.heap_setCell_same _ _ 4 _ _ _ (Go.heap_setCell_same _ _ 3 _ _ _ (Go.heap_setCell_same _ _ 2 _ _ _ (Go.heap_setCell_same _ _ 1 _ _ _ (Go.heap_setCell_same _ _ 0 _ _ _ G3.out))))
          have hne : ¬ (w.heap.size + 2 ≤ w.heap.size + 1 ∧ w.heap.size + 1 ≠ b3 ∧ (Value.slice a3 q cc3).ownBlock ≠ some (w.heap.size + 1)) := fun h => by omega
          have hke : Keeps (fun b => w.heap.size + 2 ≤ b ∧ b ≠ b3 ∧ (Value.slice a3 q cc3).ownBlock ≠ some b) wr (((((wr.setCell ⟨w.heap.size + 1, 0, none⟩ (.int .i64 k)).setCell ⟨w.heap.size + 1, 1, none⟩ (.int .i64 i)).setCell ⟨w.heap.size + 1, 2, none⟩ (.string s)).setCell ⟨w.heap.size + 1, 3, none⟩ (.slice a3 q cc3)).setCell ⟨w.heap.size + 1, 4, none⟩ (.slice a2 m c2)) := (((((Keeps.refl _ _).setCell _ _ hne).setCell _ _ hne).setCell _ _ hne).setCell _ _ hne).setCell _ _ hne
          have hkb : Keeps (fun b => b3 + 1 ≤ b) wr (((((wr.setCell ⟨w.heap.size + 1, 0, none⟩ (.int .i64 k)).setCell ⟨w.heap.size + 1, 1, none⟩ (.int .i64 i)).setCell ⟨w.heap.size + 1, 2, none⟩ (.string s)).setCell ⟨w.heap.size + 1, 3, none⟩ (.slice a3 q cc3)).setCell ⟨w.heap.size + 1, 4, none⟩ (.slice a2 m c2)) := (((((Keeps.refl _ _).setCell _ _ (by simp; omega)).setCell _ _ (by simp; omega)).setCell _ _ (by simp; omega)).setCell _ _ (by simp; omega)).setCell _ _ (by simp; omega)
          have hle : w.heap.size ≤ w.heap.size + 1 := by omega
          refine bodyPost_ret (results_cell_row rfl _ _ (w.heap.size + 1) 49 #[.int .i64 k, .int .i64 i, .string s, .slice a3 q cc3, .slice a2 m c2] (0, 0) _ rfl hf Tryz.underlying49 rfl sizeV) rfl ⟨⟨[.int .i64 k, .int .i64 i, .string s, .slice a3 q cc3, .slice a2 m c2], rfl, .slice a3 q cc3, .slice a2 m c2, rfl, hs, ?_, ?_⟩, ?_⟩
          · have hqn := HQ.out
            subst hqn
            refine HS.out.mono ?_
            rintro b o ⟨rfl, hb, hbl, hob, hat⟩ j hj
            have h1 : At wr (fun b => b3 + 1 ≤ b) b (0 + j * 5) (C j) := ⟨hb, hbl, by simpa using hat j hj⟩
            exact ⟨C j, (h1.keep hkb).mono (fun z hz _ => by omega), RV.mono (fun z hz _ => by omega) _ _ (RV.keep hke _ _ (HRS.out j hj))⟩
          · exact RP.mono (RP.keep HRP.out hke) (fun z hz _ => by omega)
          · exact ((((hB.setCell (p := ⟨w.heap.size + 1, 0, none⟩) hle _).setCell (p := ⟨w.heap.size + 1, 1, none⟩) hle _).setCell (p := ⟨w.heap.size + 1, 2, none⟩) hle _).setCell (p := ⟨w.heap.size + 1, 3, none⟩) hle _).setCell (p := ⟨w.heap.size + 1, 4, none⟩) hle _

end Go.Proofs.YtdfiblaboddbjaaGreatDoor.Twin
