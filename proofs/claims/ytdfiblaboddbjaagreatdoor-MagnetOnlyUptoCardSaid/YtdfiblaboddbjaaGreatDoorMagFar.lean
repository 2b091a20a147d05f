import Derived.Test.YtdfiblaboddbjaaGreatDoorMagRep
import Derived.Test.YtdfiblaboddbjaaGreatDoorProg
import Derived.KernelRfl
import Derived.Handy
namespace Go.Proofs.YtdfiblaboddbjaaGreatDoor.Far
open Go.RowKit Go.Proofs.YtdfiblaboddbjaaGreatDoor.Base Go.Proofs.YtdfiblaboddbjaaGreatDoor.Rep
set_option linter.unusedVariables false
set_option linter.unusedSimpArgs false

/-- the counter in block b -/
def Cnt (w : World) (b : Nat) : Prop := ∃ m : Int, w.heap[b]? = some (.cells #[.int .i64 m] 76 (0, 0))

theorem Cnt.lt {w : World} {b : Nat} (h : Cnt w b) : b < w.heap.size := by
  obtain ⟨m, h⟩ := h
  exact (Array.getElem?_eq_some_iff.1 h).1

/-- a call that writes the counter alone, and makes memory -/
structure Did (b : Nat) (w w' : World) : Prop where
  cnt : Cnt w' b
  grown : w.grownBy w' (some b)

theorem Did.keeps {b : Nat} {w w' : World} (h : Did b w w') {ok : Nat → Prop} (ho : ¬ ok b) : Keeps ok w w' := Keeps.grown h.grown (fun k e => by cases e; exact ho)
theorem Did.trans {b : Nat} {w w' w'' : World} (h : Did b w w') (k : Did b w' w'') : Did b w w'' :=
  ⟨k.cnt, ⟨k.grown.os.trans h.grown.os, k.grown.tape.trans h.grown.tape, k.grown.output.trans h.grown.output, Nat.le_trans h.grown.size k.grown.size,
    fun i hi hn => (k.grown.block i (Nat.lt_of_lt_of_le hi h.grown.size) hn).trans (h.grown.block i hi hn)⟩⟩
theorem Did.below {b : Nat} {w w' : World} (hc : Cnt w b) (hb : Below w.heap.size w w') : Did b w w' := by
  obtain ⟨m, h⟩ := hc
  have hl := (Array.getElem?_eq_some_iff.1 h).1
  exact ⟨⟨m, (hb.block b hl).trans h⟩, hb.os, hb.tape, hb.output, hb.size, fun k hk _ => hb.block k hk⟩

set_option maxHeartbeats 1000000 in
set_option maxRecDepth 100000 in
theorem add (b : Nat) (n : Int) (w : World) (hc : Cnt w b) :
    Calls Tryz.prog 34 #[.pointer (some ⟨b, 0, none⟩), .int .i64 n] w fun e w' => (∃ r, e = .returned (.bool r)) ∧ Did b w w' := by
  obtain ⟨m, hm⟩ := hc
  have hcell : w.cell? ⟨b, 0, none⟩ = some (.int .i64 m) := by rw [Lib.cell_of_heap hm]; rfl
  have hfz : w.frozen? ⟨b, 0, none⟩ = false := Lib.frozen_of_heap hm 0
  have HM := Lib.hid hm
  clear hm
  go_enter Tryz.func34, Tryz.ntmps34
  go_wp2
  go_ret
  refine ⟨⟨_, rfl⟩, ⟨_, heap_setCell_same w b 0 _ _ _ HM.out⟩, rfl, rfl, rfl, by simp, fun k hk hn => ?_⟩
  exact Below.heap_setCell _ _ _ _ (fun e => hn (by rw [e]))

set_option maxHeartbeats 1000000 in
set_option maxRecDepth 100000 in
theorem texts (b : Nat) (ok : Nat → Prop) (hok : ¬ ok b) (l : List ByteArray) (v : Value) (w : World) (hc : Cnt w b) (hl : RS w ok l v) :
    Calls Tryz.prog 35 #[.pointer (some ⟨b, 0, none⟩), v] w fun e w' => (∃ r, e = .returned (.bool r)) ∧ Did b w w' := by
  have HL := Lib.hid hl
  obtain ⟨a, c, rfl, hn, ⟨hcm, hn20, -⟩, ha⟩ := hl
  have HA := Lib.hid ha
  clear ha
  go_enter Tryz.func35, Tryz.ntmps35
  go_wp2
  go_loopw [5] (fun v5 wr => ∃ k : Nat, k ≤ l.length ∧ v5 = .int .i64 k ∧ Hid (Did b w wr)) (fun v5 _ => l.length - (intOf v5).toNat)
  case atStart => exact ⟨0, Nat.zero_le _, rfl, Did.below hc (Below.refl _ _)⟩
  case round =>
    obtain ⟨k, hk, rfl, HD⟩ := hrel
    by_cases hlt : k < l.length
    · rcases HA.out with h0 | ⟨B, o, rfl, ha⟩
      · omega
      · obtain ⟨hcell, hsz⟩ := ha k l[k] (by simp [hlt])
        have hcc := (hcell.keep (HD.out.keeps hok)).cell 0 rfl
        simp only [Nat.add_zero] at hcc
        have HC := Lib.hid hcell
        clear hcell ha
        go_wp2_with fail
        refine (add b _ _ HD.out.cnt).mono ?_
        rintro e w1 ⟨⟨r, rfl⟩, hd⟩
        have HD1 := Lib.hid (HD.out.trans hd)
        clear hd hcc
        cases r
        · go_wp2
          exact ⟨⟨k + 1, by omega, by go_num, HD1⟩, by simp [intOf]; omega⟩
        · go_wp2
          go_ret
          exact ⟨⟨_, rfl⟩, HD1.out⟩
    · go_wp2
      go_ret
      exact ⟨⟨_, rfl⟩, HD.out⟩

def ValueOk (x : V) : Prop := ∀ (b : Nat) (ok : Nat → Prop), ¬ ok b → ∀ (cs : List Value) (left : Int) (w : World), Cnt w b → RV w ok x cs → 0 ≤ left → left ≤ 1000000 →
    Calls Tryz.prog 59 #[.pointer (some ⟨b, 0, none⟩), .agg cs.toArray, .int .i64 left] w fun e w' => (∃ r, e = .returned (.bool r)) ∧ Did b w w'

theorem sizeV : (Tryz.prog.info? 49).map (·.size) = some 5 := by kernel_rfl

set_option maxHeartbeats 1000000 in
set_option maxRecDepth 100000 in
theorem pairs (b : Nat) (ok : Nat → Prop) (hok : ¬ ok b) (m : Nat) (dk : Nat → ByteArray) (dv : Nat → V) (ih : ∀ j, ValueOk (dv j)) (v : Value) (left : Int) (w : World) (hc : Cnt w b) (hl : RP w ok m dk dv v) (h0 : 0 ≤ left) (h1 : left ≤ 1000000) :
    Calls Tryz.prog 36 #[.pointer (some ⟨b, 0, none⟩), v, .int .i64 left] w fun e w' => (∃ r, e = .returned (.bool r)) ∧ Did b w w' := by
  have HL := Lib.hid hl
  have HI := Lib.hid ih
  clear ih
  obtain ⟨a, c, rfl, hn, ⟨hcm, hn20, -⟩, ha⟩ := hl
  have HA := Lib.hid ha
  clear ha
  go_enter Tryz.func36, Tryz.ntmps36
  go_wp2
  go_loopw [7] (fun v7 wr => ∃ k : Nat, k ≤ m ∧ v7 = .int .i64 k ∧ Hid (Did b w wr)) (fun v7 _ => m - (intOf v7).toNat)
  case atStart => exact ⟨0, Nat.zero_le _, rfl, Did.below hc (Below.refl _ _)⟩
  case round =>
    obtain ⟨k, hk, rfl, HD⟩ := hrel
    by_cases hlt : k < m
    · rcases HA.out with h0' | ⟨B, o, rfl, ha⟩
      · omega
      · obtain ⟨cs, hcell, hsz, hrv⟩ := ha k hlt
        have hcc := (hcell.keep (HD.out.keeps hok)).cell 0 rfl
        simp only [Nat.add_zero] at hcc
        have HC := Lib.hid hcell
        have HR := Lib.hid hrv
        have SV := Lib.hid (show (Tryz.prog.info? 49).map (·.size) = some cs.length by rw [hrv.length]; exact sizeV)
        clear hcell ha hrv
        go_wp2_with fail
        refine (add b _ _ HD.out.cnt).mono ?_
        rintro e w1 ⟨⟨r, rfl⟩, hd⟩
        have HD1 := Lib.hid (HD.out.trans hd)
        clear hd hcc
        cases r
        · have hra : Hid (w1.rangeAt B (o + k * 6 + 1) cs) := fun j u hj => by
            have := (HC.out.keep (HD1.out.keeps hok)).2.2 (j + 1) u (by simpa using hj)
            rw [← this]; congr 2; omega
          go_wp2_with (refine wpList_load_mid rfl 49 _ rfl B (o + k * 6 + 1) rfl cs _ hra.out Tryz.underlying49 rfl SV.out ?_)
          refine (HI.out k b ok hok cs left w1 HD1.out.cnt (RV.keep (HD1.out.keeps hok) _ _ HR.out) h0 h1).mono ?_
          rintro e w2 ⟨⟨r, rfl⟩, hd⟩
          have HD2 := Lib.hid (HD1.out.trans hd)
          clear hd
          cases r
          · go_wp2
            exact ⟨⟨k + 1, by omega, by go_num, HD2⟩, by simp [intOf]; omega⟩
          · go_wp2
            go_ret
            exact ⟨⟨_, rfl⟩, HD2.out⟩
        · go_wp2
          go_ret
          exact ⟨⟨_, rfl⟩, HD1.out⟩
    · go_wp2
      go_ret
      exact ⟨⟨_, rfl⟩, HD.out⟩

set_option maxHeartbeats 1000000 in
set_option maxRecDepth 100000 in
theorem value (x : V) : ValueOk x := by
  induction x with
  | leaf => intro b ok hok cs left w hc hrv; exact (hrv : False).elim
  | mk k i s n l m dk dv ihl ihd =>
    intro b ok hok cs left w hc hrv h0 h1
    have HR := Lib.hid hrv
    have HIL := Lib.hid ihl
    have HID := Lib.hid ihd
    clear ihl ihd
    obtain ⟨lv, xv, rfl, hs, hl, hx⟩ := hrv
    have HL := Lib.hid hl
    have HX := Lib.hid hx
    obtain ⟨a, c, rfl, hn, ⟨hcm, hn20, -⟩, ha⟩ := hl
    obtain ⟨a', c', rfl, hn', ⟨hcm', hn20', -⟩, ha'⟩ := hx
    have HA := Lib.hid ha
    clear ha ha'
    skip
    have hlb := hc.lt
    go_enter Tryz.func59, Tryz.ntmps59
    have hw0 : Below w.heap.size w (w.alloc (.cells #[.int .i64 k, .int .i64 i, .string s, .slice a n c, .slice a' m c'] 49)) := (Below.refl _ _).alloc (Nat.le_refl _) _
    have HD0 := Lib.hid (Did.below hc hw0)
    clear hw0
    go_wp2_with fail
    refine (add b _ _ HD0.out.cnt).mono ?_
    rintro e w1 ⟨⟨r, rfl⟩, hd⟩
    have hbx : w1.heap[w.heap.size]? = some (.cells #[.int .i64 k, .int .i64 i, .string s, .slice a n c, .slice a' m c'] 49 (0, 0)) := by
      rw [hd.grown.block w.heap.size (by simp) (by simp; omega)]
      exact Go.heap_alloc_new _ _
    have HD1 := Lib.hid (HD0.out.trans hd)
    clear hd
    have c3 : w1.cell? ⟨w.heap.size, 3, none⟩ = some (.slice a n c) := by rw [Lib.cell_of_heap hbx]; rfl
    have c4 : w1.cell? ⟨w.heap.size, 4, none⟩ = some (.slice a' m c') := by rw [Lib.cell_of_heap hbx]; rfl
    have HBX := Lib.hid hbx
    clear hbx
    have hlt1 : w.heap.size < w1.heap.size := by have := HD1.out.grown.size; have := (Array.getElem?_eq_some_iff.1 HBX.out).1; exact this
    by_cases hleft : left = 0
    · have hl0 : (left == 0) = true := by simp [hleft]
      clear hleft
      go_wp2
      go_ret
      exact ⟨⟨_, rfl⟩, HD1.out⟩
    · have hl0 : (left == 0) = false := by simp [hleft]
      have hl1 : 1 ≤ left := by omega
      clear hleft
      cases r
      · clear c3 c4
        go_wp2
        go_loopw [8] (fun v8 wr => ∃ q : Nat, q ≤ n ∧ v8 = .int .i64 q ∧ Hid (Did b w wr) ∧ Hid (wr.heap[w.heap.size]? = some (.cells #[.int .i64 k, .int .i64 i, .string s, .slice a n c, .slice a' m c'] 49 (0, 0)))) (fun v8 _ => n - (intOf v8).toNat)
        case atStart => exact ⟨0, Nat.zero_le _, rfl, HD1, HBX⟩
        case round =>
          obtain ⟨q, hq, rfl, HDr, HBr⟩ := hrel
          have c3 : wr.cell? ⟨w.heap.size, 3, none⟩ = some (.slice a n c) := by rw [Lib.cell_of_heap HBr.out]; rfl
          have c4 : wr.cell? ⟨w.heap.size, 4, none⟩ = some (.slice a' m c') := by rw [Lib.cell_of_heap HBr.out]; rfl
          have hltr : w.heap.size < wr.heap.size := (Array.getElem?_eq_some_iff.1 HBr.out).1
          by_cases hlt : q < n
          · rcases HA.out with h0' | ⟨B, o, rfl, ha⟩
            · omega
            · obtain ⟨cs, hcell, hrv⟩ := ha q hlt
              have SV := Lib.hid (show (Tryz.prog.info? 49).map (·.size) = some cs.length by rw [hrv.length]; exact sizeV)
              have HR2 := Lib.hid (RV.keep (HDr.out.keeps hok) _ _ hrv)
              have HC := Lib.hid (hcell.keep (HDr.out.keeps hok))
              clear ha hcell hrv
              go_wp2_with (refine wpList_load_mid rfl 49 _ rfl B (o + q * 5) rfl cs _ HC.out.2.2 Tryz.underlying49 rfl SV.out ?_)
              refine (HIL.out q b ok hok cs _ wr HDr.out.cnt HR2.out (by omega) (by omega)).mono ?_
              rintro e w2 ⟨⟨r, rfl⟩, hd⟩
              have HB2 : Hid (w2.heap[w.heap.size]? = _) := (hd.grown.block w.heap.size hltr (by simp; omega)).trans HBr.out
              have HD2 := Lib.hid (HDr.out.trans hd)
              clear hd
              cases r
              · go_wp2
                exact ⟨⟨q + 1, by omega, by go_num, HD2, HB2⟩, by simp [intOf]; omega⟩
              · go_wp2
                go_ret
                exact ⟨⟨_, rfl⟩, HD2.out⟩
          · go_wp2_with fail
            refine (pairs b ok hok m dk dv (fun j => HID.out j) (.slice a' m c') _ wr HDr.out.cnt (RP.keep HX.out (HDr.out.keeps hok)) (by omega) (by omega)).mono ?_
            rintro e w2 ⟨⟨r, rfl⟩, hd⟩
            have HD2 := Lib.hid (HDr.out.trans hd)
            clear hd
            go_wp2
            go_ret
            exact ⟨⟨_, rfl⟩, HD2.out⟩
      · go_wp2
        go_ret
        exact ⟨⟨_, rfl⟩, HD1.out⟩

set_option maxHeartbeats 1000000 in
set_option maxRecDepth 100000 in
theorem farLink (X : Lk) (ok : Nat → Prop) (tv pv ov mv : Value) (w : World) (hX : RL w ok X tv pv ov mv) (hok : ∀ k, ok k → k < w.heap.size) :
    Calls Tryz.prog 13 #[.agg (lcells X tv pv ov mv).toArray] w fun e w' => (∃ r, e = .returned (.bool r)) ∧ Below w.heap.size w w' := by
  have hi := hX.info
  have hnm := hX.name
  have htv := hX.trackers
  have hpv := hX.peers
  have hov := hX.only
  have hmv := hX.more
  have hB1 : Below w.heap.size w ((w.alloc (.cells (lcells X tv pv ov mv).toArray 29)).alloc (.cells #[.int .i64 0] 76)) := ((Below.refl _ _).alloc (Nat.le_refl _) _).alloc (by simp) _
  have hL : Lb ((w.alloc (.cells (lcells X tv pv ov mv).toArray 29)).alloc (.cells #[.int .i64 0] 76)) w.heap.size 29 X tv pv ov mv :=
    (Go.heap_alloc_old _ _ (by simp)).trans (Lb.new _ _ _ _ _ _ _)
  have hC : Cnt ((w.alloc (.cells (lcells X tv pv ov mv).toArray 29)).alloc (.cells #[.int .i64 0] 76)) (w.heap.size + 1) := ⟨0, by
    have := Go.heap_alloc_new (w.alloc (.cells (lcells X tv pv ov mv).toArray 29)) (.cells #[.int .i64 0] 76)
    simpa using this⟩
  have c32 := hL.cell 32
  have c35 := hL.cell 35
  rw [lcells_32 hi] at c32
  rw [lcells_35 hi] at c35
  have HL := Lib.hid hL
  have HC := Lib.hid hC
  have HI := Lib.hid hi
  have HB := Lib.hid hB1
  have HTV := Lib.hid htv
  have HPV := Lib.hid hpv
  have HMV := Lib.hid hmv
  clear hL hC hi hB1 htv hpv hmv
  obtain ⟨ao, co, rfl, hno, ⟨hco, hco20, -⟩, _⟩ := hov
  go_enter Tryz.func13, Tryz.ntmps13
  go_wp2_with fail
  refine (add (w.heap.size + 1) _ _ HC.out).mono ?_
  rintro e w1 ⟨⟨r, rfl⟩, hd⟩
  have hok1 : ¬ ok (w.heap.size + 1) := fun h => by have := hok _ h; omega
  have hx : ∀ (wa wb : World), Lb wa w.heap.size 29 X tv pv (.slice ao X.only.length co) mv → Did (w.heap.size + 1) wa wb → Lb wb w.heap.size 29 X tv pv (.slice ao X.only.length co) mv :=
    fun _ _ h d => (d.grown.block w.heap.size h.lt (by simp)).trans h
  have hbelow : ∀ (wa : World), Did (w.heap.size + 1) ((w.alloc (.cells (lcells X tv pv (.slice ao X.only.length co) mv).toArray 29)).alloc (.cells #[.int .i64 0] 76)) wa → Below w.heap.size w wa :=
    fun _ d => HB.out.grown d.grown HB.out.size (fun k e => by cases e; omega)
  have hkeep : ∀ (wa : World), Did (w.heap.size + 1) ((w.alloc (.cells (lcells X tv pv (.slice ao X.only.length co) mv).toArray 29)).alloc (.cells #[.int .i64 0] 76)) wa → Keeps ok w wa :=
    fun _ d => (Keeps.of_below (hbelow _ d))
  have HL1 := Lib.hid (hx _ _ HL.out hd)
  have HD1 := Lib.hid hd
  have HX := Lib.hid hx
  have HBE := Lib.hid hbelow
  have HKE := Lib.hid hkeep
  clear hd c32 c35 hx hbelow hkeep
  cases r
  case true =>
    go_wp2
    go_ret
    exact ⟨⟨_, rfl⟩, HBE.out _ HD1.out⟩
  have c33 := HL1.out.cell 33
  rw [lcells_33 HI.out] at c33
  go_wp2_with fail
  refine (texts (w.heap.size + 1) ok hok1 _ _ _ HD1.out.cnt (HTV.out.keep (HKE.out _ HD1.out))).mono ?_
  rintro e w2 ⟨⟨r, rfl⟩, hd⟩
  have HL2 := Lib.hid (HX.out _ _ HL1.out hd)
  have HD2 := Lib.hid (HD1.out.trans hd)
  clear hd c33
  cases r
  case true =>
    go_wp2
    go_ret
    exact ⟨⟨_, rfl⟩, HBE.out _ HD2.out⟩
  have c34 := HL2.out.cell 34
  rw [lcells_34 HI.out] at c34
  go_wp2_with fail
  refine (texts (w.heap.size + 1) ok hok1 _ _ _ HD2.out.cnt (HPV.out.keep (HKE.out _ HD2.out))).mono ?_
  rintro e w3 ⟨⟨r, rfl⟩, hd⟩
  have HL3 := Lib.hid (HX.out _ _ HL2.out hd)
  have HD3 := Lib.hid (HD2.out.trans hd)
  clear hd c34
  cases r
  case true =>
    go_wp2
    go_ret
    exact ⟨⟨_, rfl⟩, HBE.out _ HD3.out⟩
  have c36 := HL3.out.cell 36
  rw [lcells_36 HI.out] at c36
  go_wp2_with fail
  refine (pairs (w.heap.size + 1) ok hok1 _ _ _ (fun j => value _) _ _ _ HD3.out.cnt (HMV.out.keep (HKE.out _ HD3.out)) (by decide) (by decide)).mono ?_
  rintro e w4 ⟨⟨r, rfl⟩, hd⟩
  have HD4 := Lib.hid (HD3.out.trans hd)
  clear hd c36
  go_wp2
  go_ret
  exact ⟨⟨_, rfl⟩, HBE.out _ HD4.out⟩

end Go.Proofs.YtdfiblaboddbjaaGreatDoor.Far
