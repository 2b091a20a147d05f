/-
  The document's joined.
-/
import Derived.Test.YtdfiblaboddbjaaDoorMagOL
namespace Go.Proofs.YtdfiblaboddbjaaDoor.Prs
open Go.RowKit Go.Proofs.YtdfiblaboddbjaaDoor.Base Go.Proofs.YtdfiblaboddbjaaDoor.Rep Go.Proofs.YtdfiblaboddbjaaDoor.Mag Go.Proofs.YtdfiblaboddbjaaDoor.Has
set_option linter.unusedVariables false
set_option linter.unusedSimpArgs false

theorem own_turn {w w' : World} {B e s n q : Nat} {v : Value} {xs : List Value} {cs : Array Value} {T : TypeId} {fr : Nat × Nat} (h : w.ownsRow B e s v n xs) (hg : w.grownBy w' (some q)) (hq : w.heap[q]? = some (Obj.cells cs T fr)) (he : e ≠ T) : w'.ownsRow B e s v n xs := by
  refine h.kept hg ?_
  rcases h.2 with ⟨rfl, _⟩ | ⟨g, cap, cur, rfl, _, hgb, _⟩
  · left; rfl
  · right
    simp only [Value.ownBlock, Option.map_some, ne_eq, Option.some.injEq]
    intro e1
    subst e1
    rw [hq] at hgb
    injection hgb with h1
    injection h1 with h2 h3
    exact he h3.symm
/-- Another block, of another kind, turns. -/
theorem OL.turn {w w' : World} {B N q : Nat} {P : Pk} {tv pv ov mv : Value} {cs : Array Value} {T : TypeId} {fr : Nat × Nat} (h : OL w B N P tv pv ov mv) (hg : w.grownBy w' (some q)) (hq : w.heap[q]? = some (Obj.cells cs T fr)) (h1 : T ≠ 9) (h2 : T ≠ 64) (h3 : T ≠ 55) : OL w' B N P tv pv ov mv :=
  ⟨h.info, h.name, own_turn h.tr hg hq h1.symm, own_turn h.pe hg hq h1.symm, own_turn h.on hg hq h2.symm, own_turn h.mo hg hq h3.symm, h.tp, h.cnt, h.trs, h.pes, h.mos, h.who⟩
theorem grown_setCell (w : World) (q j : Nat) (v : Value) : w.grownBy (w.setCell ⟨q, j, none⟩ v) (some q) := ⟨rfl, rfl, rfl, by simp, fun k hk hne => Below.heap_setCell w ⟨q, j, none⟩ v k (fun e => hne (by rw [e]))⟩
theorem grown_setRow (w : World) (q : Nat) (cs : Array Value) : w.grownBy (w.setRow q cs) (some q) := ⟨rfl, rfl, rfl, by simp, fun k hk hne => setRow_other w q k cs (fun e => hne (by rw [e]))⟩
theorem KeptT.turn {w w1 w2 : World} {q : Nat} (h : KeptT w w1) (hg : w1.grownBy w2 (some q)) (hq : w.heap.size ≤ q) : KeptT w w2 := ⟨Nat.le_trans h.1 hg.size, fun k cs T fr a b c d => by
  have hlt := (Array.getElem?_eq_some_iff.1 d).1
  rw [hg.block k (by have := h.1; omega) (fun e => by injection e with e; omega)]
  exact h.2 k cs T fr a b c d⟩
theorem Below.turn {B : Nat} {w w1 w2 : World} {q : Nat} (h : Below B w w1) (hg : w1.grownBy w2 (some q)) (hq : B ≤ q) (hB : B ≤ w1.heap.size) : Below B w w2 := h.grown hg hB (fun k e => by cases e; exact hq)

theorem lcells_set32 {X : Lk} (h : X.info.length = 32) (tv pv ov mv : Value) (s : ByteArray) : (lcells X tv pv ov mv).set 32 (.string s) = lcells { X with name := s } tv pv ov mv := by simp [lcells, List.set_append, h]
theorem lcells_set36 {X : Lk} (h : X.info.length = 32) (tv pv ov mv v : Value) : (lcells X tv pv ov mv).set 36 v = lcells X tv pv ov v := by simp [lcells, List.set_append, h]
theorem Lb.set {w : World} {b j : Nat} {T : TypeId} {X : Lk} {tv pv ov mv : Value} (h : Lb w b T X tv pv ov mv) (u : Value) : (w.setCell ⟨b, j, none⟩ u).heap[b]? = some (Obj.cells ((lcells X tv pv ov mv).set j u).toArray T (0, 0)) := by
  rw [heap_setCell_same w b j _ T _ h]; simp
theorem Lb.frozen {w : World} {b : Nat} {T : TypeId} {X : Lk} {tv pv ov mv : Value} (h : Lb w b T X tv pv ov mv) (j : Nat) : w.frozen? ⟨b, j, none⟩ = false := Lib.frozen_of_heap h j
theorem sizeLQ {X : Lk} (hi : X.info.length = 32) (tv pv ov mv : Value) : (Tryd.prog.info? 28).map (·.size) = some (lcells X tv pv ov mv).toArray.size := by
  simp only [List.size_toArray, lcells_length hi]; exact Twin.sizeL
noncomputable def onlyP (P : Pk) : Option (List (Int × Int)) → Pk × Int
  | none => (P, 226)
  | some l => if T (apartP l) then ({ P with only := l }, 0) else (P, 227)
theorem own_mono {w : World} {B B' e s n : Nat} {v : Value} {xs : List Value} (h : w.ownsRow B e s v n xs) (hb : B' ≤ B) : w.ownsRow B' e s v n xs := by
  refine ⟨h.1, ?_⟩
  rcases h.2 with h' | ⟨g, cap, cur, e1, e2, e3⟩
  · exact Or.inl h'
  · exact Or.inr ⟨g, cap, cur, e1, Nat.le_trans hb e2, e3⟩
theorem whole_none : whole [] := fun i h => by simp at h

theorem run1_ok {l : List UInt8} {r : Int × Int} {rest : List UInt8} (h : run1 l = some (r, rest)) : 0 ≤ r.1 ∧ r.1 < 4096 ∧ 1 ≤ r.2 ∧ r.2 ≤ 4096 - r.1 ∧ rest.length < l.length := by
  unfold run1 at h
  cases hn : numS (digs l) with
  | none => rw [hn] at h; cases h
  | some a =>
    rw [hn] at h
    obtain ⟨ha, _, _, ha4, _, _⟩ := numS_some hn
    have hdp : 0 < (digs l).length := List.length_pos_iff.2 ha4
    have hdl : (digs l).length ≤ l.length := ((List.takeWhile_prefix _).trans (List.take_prefix _ _)).length_le
    simp only at h
    split at h
    · cases hn2 : numS (digs (l.drop (digs l).length).tail) with
      | none => rw [hn2] at h; cases h
      | some b =>
        rw [hn2] at h
        obtain ⟨hb, _⟩ := numS_some hn2
        simp only at h
        split at h
        · cases h
        · injection h with h
          injection h with h1 h2
          subst h1 h2
          simp; omega
    · injection h with h
      injection h with h1 h2
      subst h1 h2
      simp; omega
theorem runsF_ok : ∀ (f : Nat) (l : List UInt8) (r : List (Int × Int)), runsF f l = some r → whole r ∧ r.length ≤ l.length
  | 0, l, r, h => by simp [runsF] at h
  | f + 1, l, r, h => by
    rw [runsF] at h
    cases h1 : run1 l with
    | none => rw [h1] at h; cases h
    | some x =>
      obtain ⟨r0, rest⟩ := x
      rw [h1] at h
      obtain ⟨q1, q2, q3, q4, q5⟩ := run1_ok h1
      simp only at h
      cases rest with
      | nil =>
        simp only at h
        injection h with h
        subst h
        refine ⟨fun i hi => ?_, by simp at q5 ⊢; omega⟩
        obtain rfl : i = 0 := by simp at hi; omega
        exact ⟨q1, q2, q3, q4⟩
      | cons c rest' =>
        simp only at h
        split at h
        · obtain ⟨r', hr', rfl⟩ := Option.map_eq_some_iff.1 h
          obtain ⟨hw, hl⟩ := runsF_ok f rest' r' hr'
          refine ⟨fun i hi => ?_, by simp at q5 ⊢; omega⟩
          cases i with
          | zero => exact ⟨q1, q2, q3, q4⟩
          | succ i => exact hw i (by simp at hi; omega)
        · cases h
theorem runsS_ok {l : List UInt8} {r : List (Int × Int)} (h : runsS l = some r) : whole r ∧ r.length ≤ l.length := runsF_ok _ _ _ h

set_option maxHeartbeats 8000000 in
set_option maxRecDepth 100000 in
theorem rjoined (P : Pk) (tv pv ov mv : Value) (key value : ByteArray) (B N : Nat) (w : World) (hO : OL w B N P tv pv ov mv) (hB : B ≤ w.heap.size) (hN : N ≤ 100000) (hk0 : kindI key ≠ 0) (hks : key.size ≤ 1048576) (hvs : value.size ≤ 1048576) :
    Calls Tryd.prog 73 #[.agg (lcells P.lk tv pv ov mv).toArray, .string key, .string value] w fun e w' => (∃ tv' pv' ov' mv', e = .returned (.tuple #[.agg (lcells (holdP P key value).1.lk tv' pv' ov' mv').toArray, .int .i64 (holdP P key value).2]) ∧ OL w' B (N + 1) (holdP P key value).1 tv' pv' ov' mv') ∧ Below B w w' ∧ KeptT w w' := by
  have hi : P.lk.info.length = 32 := hO.info
  have hB0 : Below w.heap.size w ((w.alloc (.cells (lcells P.lk tv pv ov mv).toArray 28)).alloc (.cells Twin.zeroL 28)) := ((Below.refl _ _).alloc (Nat.le_refl _) _).alloc (by simp) _
  have hA : Lb ((w.alloc (.cells (lcells P.lk tv pv ov mv).toArray 28)).alloc (.cells Twin.zeroL 28)) w.heap.size 28 P.lk tv pv ov mv := heap_alloc2_old w _ _
  have hZ := heap_alloc2_new w (.cells (lcells P.lk tv pv ov mv).toArray 28) (.cells Twin.zeroL 28)
  obtain ⟨W0, hW0⟩ : ∃ W0, (w.alloc (.cells (lcells P.lk tv pv ov mv).toArray 28)).alloc (.cells Twin.zeroL 28) = W0 := ⟨_, rfl⟩
  have hz0 : W0.heap.size = w.heap.size + 2 := by rw [← hW0]; simp
  rw [hW0] at hB0 hA hZ
  have HA := Lib.hid hA
  have HZ := Lib.hid hZ
  have HI := Lib.hid hi
  have HO := Lib.hid (hO.below hB0)
  have HB0 := Lib.hid hB0
  have HBB : Hid (Below B w W0) := hB0.mono hB
  have HK0 : Hid (KeptT w W0) := KeptT.of_below hB0
  -- the end of the walk: the link is loaded and stored into the result's variable
  have fin : ∀ (w5 : World) (Q : Pk) (t5 p5 o5 m5 : Value), OL w5 B (N + 1) Q t5 p5 o5 m5 → Lb w5 w.heap.size 28 Q.lk t5 p5 o5 m5 → w5.heap[w.heap.size + 1]? = some (.cells Twin.zeroL 28 (0, 0)) → Below B w w5 → KeptT w w5 →
      ∃ w6, (storeCells ⟨w.heap.size + 1, 0, none⟩ (lcells Q.lk t5 p5 o5 m5)).run Tryd.prog w5 = .ok () w6 ∧ Hid (Lb w6 (w.heap.size + 1) 28 Q.lk t5 p5 o5 m5) ∧ Hid (OL w6 B (N + 1) Q t5 p5 o5 m5) ∧ Hid (Below B w w6) ∧ Hid (KeptT w w6) := by
    intro w5 Q t5 p5 o5 m5 h1 h2 h3 h4 h5
    refine ⟨_, h1.store w5 _ _ rfl h3, ?_, ?_, ?_, ?_⟩
    · exact setRow_heap _ _ _ _ _ _ h3
    · exact h1.turn (grown_setRow _ _ _) h3 (by decide) (by decide) (by decide)
    · exact Below.turn h4 (grown_setRow _ _ _) (by omega) (by have := h4.size; omega)
    · exact h5.turn (grown_setRow _ _ _) (by omega)
  have FIN := Lib.hid fin
  have hll : ∀ (Q : Pk) (t5 p5 o5 m5 : Value), Q.info.length = 32 → (lcells Q.lk t5 p5 o5 m5).length = 37 := fun Q t5 p5 o5 m5 h => lcells_length (X := Q.lk) h _ _ _ _
  have hl0 := hll P tv pv ov mv hO.info
  have HLL := Lib.hid hll
  clear hA hZ hi hO hB0 fin hll
  obtain ⟨k, hk⟩ : ∃ k, kindI key = k := ⟨_, rfl⟩
  have hkr := kindI_range key
  have h2 := rkind key W0
  rw [hk] at h2 hkr hk0
  have HC2 := Lib.hid h2
  have HK := Lib.hid hk
  clear h2 hk
  go_enter Tryd.func73, Tryd.ntmps73
  go_wp2_with fail
  refine HC2.out.mono ?_
  rintro e w1 ⟨rfl, rfl⟩
  have hsb : (value.toList == []) = decide (value = ⟨#[]⟩) := by rw [← str_beq, Lib.toList_data ⟨#[]⟩]
  rcases (by omega : k = 1 ∨ k = 2 ∨ k = 3 ∨ k = 4 ∨ k = 5) with rfl | rfl | rfl | rfl | rfl
  ·
    by_cases he : value = ⟨#[]⟩
    · have HE : Hid (holdP P key value = (P, 226)) := by
        refine Lib.hid ?_
        unfold holdP; rw [HK.out]; simp [he]
      rw [decide_eq_true he] at hsb
      clear he
      obtain ⟨w6, hs6, HL6, HO6, HB6, HK6⟩ := FIN.out w1 P tv pv ov mv (HO.out.more (by omega)) HA.out HZ.out HBB.out HK0.out
      have HS6 := Lib.hid (sizeLQ (X := P.lk) HI.out tv pv ov mv)
      go_wp2_with (refine wpList_load_row rfl 28 _ rfl w.heap.size rfl 28 (lcells P.lk tv pv ov mv).toArray (0, 0) _ HA.out Tryd.underlying28 rfl HS6.out ?_)
      refine bodyPost_ret (results_row1 rfl rfl HL6.out Tryd.underlying28 rfl HS6.out) rfl ⟨⟨tv, pv, ov, mv, by rw [HE.out]; rfl, by rw [HE.out]; exact HO6.out⟩, HB6.out, HK6.out⟩
    rw [decide_eq_false he] at hsb
    have HE : Hid (holdP P key value = (({ P with name := value } : Pk), 0)) := by
      refine Lib.hid ?_
      unfold holdP; rw [HK.out]; simp [he]
    clear he
    have c32 := HA.out.cell 32
    rw [lcells_32 HI.out] at c32
    have f32 := Lb.frozen HA.out 32
    obtain ⟨W1, hW1⟩ : ∃ W1, w1.setCell ⟨w.heap.size, 32, none⟩ (.string value) = W1 := ⟨_, rfl⟩
    have hL1 : Lb W1 w.heap.size 28 ({ P with name := value } : Pk).lk tv pv ov mv := by
      have := Lb.set (j := 32) HA.out (.string value)
      rw [lcells_set32 HI.out, hW1] at this
      exact this
    have HL1 := Lib.hid hL1
    have hg1 : w1.grownBy W1 (some w.heap.size) := hW1 ▸ grown_setCell _ _ _ _
    have HZ1 : Hid (W1.heap[w.heap.size + 1]? = some (.cells Twin.zeroL 28 (0, 0))) := (hg1.block _ (by omega) (by simp)).trans HZ.out
    have hO1 : OL W1 B N ({ P with name := value } : Pk) tv pv ov mv := by
      have := HO.out.turn hg1 HA.out (by decide) (by decide) (by decide)
      exact ⟨this.info, hvs, this.tr, this.pe, this.on, this.mo, this.tp, this.cnt, this.trs, this.pes, this.mos, this.who⟩
    have HO1 := Lib.hid (hO1.more (Nat.le_succ N))
    have HB1 : Hid (Below B w W1) := Below.turn HBB.out hg1 hB (by omega)
    have HK1 : Hid (KeptT w W1) := HK0.out.turn hg1 (Nat.le_refl _)
    clear hL1 hg1 hO1
    obtain ⟨w6, hs6, HL6, HO6, HB6, HK6⟩ := FIN.out W1 ({ P with name := value } : Pk) tv pv ov mv HO1.out HL1.out HZ1.out HB1.out HK1.out
    have HS6 := Lib.hid (sizeLQ (X := (({ P with name := value } : Pk)).lk) HI.out tv pv ov mv)
    have hl6 := HLL.out ({ P with name := value } : Pk) tv pv ov mv HI.out
    go_wp2_with (refine wpList_load_row rfl 28 _ rfl w.heap.size rfl 28 (lcells (({ P with name := value } : Pk)).lk tv pv ov mv).toArray (0, 0) _ HL1.out Tryd.underlying28 rfl HS6.out ?_)
    refine bodyPost_ret (results_row1 rfl rfl HL6.out Tryd.underlying28 rfl HS6.out) rfl ⟨⟨_, _, _, _, by rw [HE.out]; rfl, by rw [HE.out]; exact HO6.out⟩, HB6.out, HK6.out⟩
  · have hcall := rruns value hvs w1
    obtain ⟨R, hR⟩ : ∃ R, runsS value.data.toList = R := ⟨_, rfl⟩
    have hHE : holdP P key value = onlyP P R := by
      unfold holdP; rw [HK.out, hR]; cases R <;> simp [onlyP]
    rw [hR] at hcall
    have HCALL := Lib.hid hcall
    have HHE := Lib.hid hHE
    clear hcall hHE
    go_wp2_with fail
    refine HCALL.out.mono ?_
    rintro e w2 ⟨⟨v, rfl, hv⟩, hb2⟩
    have HA2 : Hid (Lb w2 w.heap.size 28 P.lk tv pv ov mv) := HA.out.below hb2
    have HZ2 : Hid (w2.heap[w.heap.size + 1]? = some (.cells Twin.zeroL 28 (0, 0))) := (hb2.block _ (by omega)).trans HZ.out
    have HO2 : Hid (OL w2 B N P tv pv ov mv) := HO.out.below hb2
    have HB2 : Hid (Below B w w2) := HBB.out.trans (hb2.mono (by omega))
    have HK2 : Hid (KeptT w w2) := HK0.out.trans (KeptT.of_below hb2)
    have hsz2 := hb2.size
    have HB02 : Hid (Below w.heap.size w w2) := HB0.out.trans (hb2.mono (by omega))
    cases R with
    | none =>
      have HE : Hid (holdP P key value = (P, 226)) := HHE.out
      have hE : isS none = false := rfl
      rw [hE]
      clear hb2 hv
      obtain ⟨w6, hs6, HL6, HO6, HB6, HK6⟩ := FIN.out w2 P tv pv ov mv (HO2.out.more (by omega)) HA2.out HZ2.out HB2.out HK2.out
      have HS6 := Lib.hid (sizeLQ (X := P.lk) HI.out tv pv ov mv)
      go_wp2_with (refine wpList_load_row rfl 28 _ rfl w.heap.size rfl 28 (lcells P.lk tv pv ov mv).toArray (0, 0) _ HA2.out Tryd.underlying28 rfl HS6.out ?_)
      refine bodyPost_ret (results_row1 rfl rfl HL6.out Tryd.underlying28 rfl HS6.out) rfl ⟨⟨tv, pv, ov, mv, by rw [HE.out]; rfl, by rw [HE.out]; exact HO6.out⟩, HB6.out, HK6.out⟩
    | some l =>
      have hw := runsS_ok hR
      have ho := hv l rfl
      have hE : isS (some l) = true := rfl
      rw [hE]
      have hln : l.length ≤ 1048576 := by have := hw.2; simp at this; omega
      obtain ⟨va, vc, rfl, _⟩ := own_slice ho
      have HOO := Lib.hid ho
      have HRR := Lib.hid (rr_of_own ho hln hw.1)
      have HW := Lib.hid hw.1
      clear hb2 hv ho hw
      go_wp2_with fail
      refine (rapart _ l _ w2 HRR.out HW.out).mono ?_
      rintro e w3 ⟨rfl, hb3⟩
      have HA3 : Hid (Lb w3 w.heap.size 28 P.lk tv pv ov mv) := HA2.out.below hb3
      have HZ3 : Hid (w3.heap[w.heap.size + 1]? = some (.cells Twin.zeroL 28 (0, 0))) := (hb3.block _ (by omega)).trans HZ2.out
      have HO3 : Hid (OL w3 B N P tv pv ov mv) := HO2.out.below hb3
      have HB3 : Hid (Below B w w3) := HB2.out.trans (hb3.mono (by omega))
      have HK3 : Hid (KeptT w w3) := HK2.out.trans (KeptT.of_below hb3)
      have HOO3 : Hid (w3.ownsRow w1.heap.size 64 2 (.slice va l.length vc) l.length (rows2 l)) := ownsRow_below HOO.out hb3
      have hsz3 := hb3.size
      clear hb3
      cases hap : T (apartP l) with
      | false =>
        have HE : Hid (holdP P key value = (P, 227)) := by rw [HHE.out]; simp [onlyP, hap, Hid]
        clear hap
        obtain ⟨w6, hs6, HL6, HO6, HB6, HK6⟩ := FIN.out w3 P tv pv ov mv (HO3.out.more (by omega)) HA3.out HZ3.out HB3.out HK3.out
        have HS6 := Lib.hid (sizeLQ (X := P.lk) HI.out tv pv ov mv)
        go_wp2_with (refine wpList_load_row rfl 28 _ rfl w.heap.size rfl 28 (lcells P.lk tv pv ov mv).toArray (0, 0) _ HA3.out Tryd.underlying28 rfl HS6.out ?_)
        refine bodyPost_ret (results_row1 rfl rfl HL6.out Tryd.underlying28 rfl HS6.out) rfl ⟨⟨tv, pv, ov, mv, by rw [HE.out]; rfl, by rw [HE.out]; exact HO6.out⟩, HB6.out, HK6.out⟩
      | true =>
        have HE : Hid (holdP P key value = (({ P with only := l } : Pk), 0)) := by rw [HHE.out]; simp [onlyP, hap, Hid]
        have c35 := HA3.out.cell 35
        rw [lcells_35 HI.out] at c35
        have f35 := Lb.frozen HA3.out 35
        obtain ⟨W1, hW1⟩ : ∃ W1, w3.setCell ⟨w.heap.size, 35, none⟩ (.slice va l.length vc) = W1 := ⟨_, rfl⟩
        have hL1 : Lb W1 w.heap.size 28 ({ P with only := l } : Pk).lk tv pv (.slice va l.length vc) mv := by
          have := Lb.set (j := 35) HA3.out (.slice va l.length vc)
          rw [Twin.lcells_set35 HI.out, hW1] at this
          exact this
        have HL1 := Lib.hid hL1
        have hg1 : w3.grownBy W1 (some w.heap.size) := hW1 ▸ grown_setCell _ _ _ _
        have HZ1 : Hid (W1.heap[w.heap.size + 1]? = some (.cells Twin.zeroL 28 (0, 0))) := (hg1.block _ (by omega) (by simp)).trans HZ3.out
        have HO1 : Hid (OL W1 B (N + 1) ({ P with only := l } : Pk) tv pv (.slice va l.length vc) mv) := by
          have h1 := (HO3.out.turn hg1 HA3.out (by decide) (by decide) (by decide)).more (Nat.le_succ N)
          have h2 : W1.ownsRow B 64 2 (.slice va l.length vc) l.length (rows2 l) := own_mono (own_turn HOO3.out hg1 HA3.out (by decide)) (by omega)
          exact ⟨h1.info, h1.name, h1.tr, h1.pe, h2, h1.mo, h1.tp, ⟨h1.cnt.1, h1.cnt.2.1, h1.cnt.2.2.1, hln⟩, h1.trs, h1.pes, h1.mos, HW.out⟩
        have HB1 : Hid (Below B w W1) := Below.turn HB3.out hg1 hB (by omega)
        have HK1 : Hid (KeptT w W1) := HK3.out.turn hg1 (Nat.le_refl _)
        clear hL1 hg1 hap
        obtain ⟨w6, hs6, HL6, HO6, HB6, HK6⟩ := FIN.out W1 ({ P with only := l } : Pk) tv pv (.slice va l.length vc) mv HO1.out HL1.out HZ1.out HB1.out HK1.out
        have HS6 := Lib.hid (sizeLQ (X := (({ P with only := l } : Pk)).lk) HI.out tv pv (.slice va l.length vc) mv)
        have hl6 := HLL.out ({ P with only := l } : Pk) tv pv (.slice va l.length vc) mv HI.out
        go_wp2_with (refine wpList_load_row rfl 28 _ rfl w.heap.size rfl 28 (lcells (({ P with only := l } : Pk)).lk tv pv (.slice va l.length vc) mv).toArray (0, 0) _ HL1.out Tryd.underlying28 rfl HS6.out ?_)
        refine bodyPost_ret (results_row1 rfl rfl HL6.out Tryd.underlying28 rfl HS6.out) rfl ⟨⟨_, _, _, _, by rw [HE.out]; rfl, by rw [HE.out]; exact HO6.out⟩, HB6.out, HK6.out⟩
  ·
    by_cases he : value = ⟨#[]⟩
    · have HE : Hid (holdP P key value = (P, 226)) := by
        refine Lib.hid ?_
        unfold holdP; rw [HK.out]; simp [he]
      rw [decide_eq_true he] at hsb
      clear he
      obtain ⟨w6, hs6, HL6, HO6, HB6, HK6⟩ := FIN.out w1 P tv pv ov mv (HO.out.more (by omega)) HA.out HZ.out HBB.out HK0.out
      have HS6 := Lib.hid (sizeLQ (X := P.lk) HI.out tv pv ov mv)
      go_wp2_with (refine wpList_load_row rfl 28 _ rfl w.heap.size rfl 28 (lcells P.lk tv pv ov mv).toArray (0, 0) _ HA.out Tryd.underlying28 rfl HS6.out ?_)
      refine bodyPost_ret (results_row1 rfl rfl HL6.out Tryd.underlying28 rfl HS6.out) rfl ⟨⟨tv, pv, ov, mv, by rw [HE.out]; rfl, by rw [HE.out]; exact HO6.out⟩, HB6.out, HK6.out⟩
    rw [decide_eq_false he] at hsb
    have HE : Hid (holdP P key value = (({ P with trackers := P.trackers ++ [value] } : Pk), 0)) := by
      refine Lib.hid ?_
      unfold holdP; rw [HK.out]; simp [he]
    clear he
    have c33 := HA.out.cell 33
    rw [lcells_33 HI.out] at c33
    have hm1 : P.trackers.length + 1 ≤ maxLen := by have := HO.out.cnt; unfold maxLen; omega
    have hm2 : (P.trackers.length + 1) * 16 ≤ 140737488355328 := by have := HO.out.cnt; omega
    go_wp2_with (at_builtin; refine wpList_appL rfl _ _ 24 rfl B 9 _ 1 16 Twin.infoS rfl (by decide) Tryd.underlying24 _ _ _ rfl (HO.out.tr.alloc _) ⟨w.heap.size + 2, 0, none⟩ 1 1 [.string value] rfl rfl (news_block (cs := #[.string value]) (by rw [← hz0]; exact Go.heap_alloc_new _ _)) (by simp [Value.oneCell']) (by decide) hm1 hm2 (by simp; omega) ?_)
    intro g cap w3 ho3 hgr3 hlie _
    have hb2 : Below w1.heap.size w1 (w1.alloc (.cells #[.string value] 9)) := (Below.refl _ _).alloc (Nat.le_refl _) _
    have HO3 := Lib.hid (HO.out.tracker hvs ho3 hgr3 (hlie.imp id (fun e => by rw [e]; simp; omega)))
    have hk3 : KeptT w1 w3 := (KeptT.of_below hb2).trans (KeptT.grown (HO.out.tr.alloc _) hgr3 (Or.inl rfl))
    have hA3 : Lb w3 w.heap.size 28 P.lk tv pv ov mv := hk3.2 _ _ _ _ (by decide) (by decide) (by decide) HA.out
    have HZ3 : Hid (w3.heap[w.heap.size + 1]? = some (.cells Twin.zeroL 28 (0, 0))) := hk3.2 _ _ _ _ (by decide) (by decide) (by decide) HZ.out
    have HB3 : Hid (Below B w w3) := (HBB.out.alloc (by omega) _).grown hgr3 (by simp; omega) (fun k hk => (HO.out.tr.lt k hk).1)
    have HK3 : Hid (KeptT w w3) := HK0.out.trans hk3
    have hsz3 := hk3.1
    have HA3 := Lib.hid hA3
    have d33 := hA3.cell 33
    rw [lcells_33 HI.out] at d33
    have f33 := Lb.frozen hA3 33
    obtain ⟨W1, hW1⟩ : ∃ W1, w3.setCell ⟨w.heap.size, 33, none⟩ (.slice (some ⟨g, 0, none⟩) (P.trackers.length + 1) cap) = W1 := ⟨_, rfl⟩
    have hL1 : Lb W1 w.heap.size 28 ({ P with trackers := P.trackers ++ [value] } : Pk).lk (.slice (some ⟨g, 0, none⟩) (P.trackers.length + 1) cap) pv ov mv := by
      have := Lb.set (j := 33) HA3.out (.slice (some ⟨g, 0, none⟩) (P.trackers.length + 1) cap)
      rw [Twin.lcells_set33 HI.out, hW1] at this
      exact this
    have HL1 := Lib.hid hL1
    have hg1 : w3.grownBy W1 (some w.heap.size) := hW1 ▸ grown_setCell _ _ _ _
    have HZ1 : Hid (W1.heap[w.heap.size + 1]? = some (.cells Twin.zeroL 28 (0, 0))) := (hg1.block _ (by omega) (by simp)).trans HZ3.out
    have HO1 : Hid (OL W1 B (N + 1) ({ P with trackers := P.trackers ++ [value] } : Pk) (.slice (some ⟨g, 0, none⟩) (P.trackers.length + 1) cap) pv ov mv) := HO3.out.turn hg1 HA3.out (by decide) (by decide) (by decide)
    have HB1 : Hid (Below B w W1) := Below.turn HB3.out hg1 hB (by omega)
    have HK1 : Hid (KeptT w W1) := HK3.out.turn hg1 (Nat.le_refl _)
    clear hL1 hg1 hA3 hk3 ho3 hgr3 hlie hb2 c33
    obtain ⟨w6, hs6, HL6, HO6, HB6, HK6⟩ := FIN.out W1 ({ P with trackers := P.trackers ++ [value] } : Pk) (.slice (some ⟨g, 0, none⟩) (P.trackers.length + 1) cap) pv ov mv HO1.out HL1.out HZ1.out HB1.out HK1.out
    have HS6 := Lib.hid (sizeLQ (X := (({ P with trackers := P.trackers ++ [value] } : Pk)).lk) HI.out (.slice (some ⟨g, 0, none⟩) (P.trackers.length + 1) cap) pv ov mv)
    have hl6 := HLL.out ({ P with trackers := P.trackers ++ [value] } : Pk) (.slice (some ⟨g, 0, none⟩) (P.trackers.length + 1) cap) pv ov mv HI.out
    go_wp2_with (refine wpList_load_row rfl 28 _ rfl w.heap.size rfl 28 (lcells (({ P with trackers := P.trackers ++ [value] } : Pk)).lk (.slice (some ⟨g, 0, none⟩) (P.trackers.length + 1) cap) pv ov mv).toArray (0, 0) _ HL1.out Tryd.underlying28 rfl HS6.out ?_)
    refine bodyPost_ret (results_row1 rfl rfl HL6.out Tryd.underlying28 rfl HS6.out) rfl ⟨⟨_, _, _, _, by rw [HE.out]; rfl, by rw [HE.out]; exact HO6.out⟩, HB6.out, HK6.out⟩
  ·
    by_cases he : value = ⟨#[]⟩
    · have HE : Hid (holdP P key value = (P, 226)) := by
        refine Lib.hid ?_
        unfold holdP; rw [HK.out]; simp [he]
      rw [decide_eq_true he] at hsb
      clear he
      obtain ⟨w6, hs6, HL6, HO6, HB6, HK6⟩ := FIN.out w1 P tv pv ov mv (HO.out.more (by omega)) HA.out HZ.out HBB.out HK0.out
      have HS6 := Lib.hid (sizeLQ (X := P.lk) HI.out tv pv ov mv)
      go_wp2_with (refine wpList_load_row rfl 28 _ rfl w.heap.size rfl 28 (lcells P.lk tv pv ov mv).toArray (0, 0) _ HA.out Tryd.underlying28 rfl HS6.out ?_)
      refine bodyPost_ret (results_row1 rfl rfl HL6.out Tryd.underlying28 rfl HS6.out) rfl ⟨⟨tv, pv, ov, mv, by rw [HE.out]; rfl, by rw [HE.out]; exact HO6.out⟩, HB6.out, HK6.out⟩
    rw [decide_eq_false he] at hsb
    have HE : Hid (holdP P key value = (({ P with peers := P.peers ++ [value] } : Pk), 0)) := by
      refine Lib.hid ?_
      unfold holdP; rw [HK.out]; simp [he]
    clear he
    have c34 := HA.out.cell 34
    rw [lcells_34 HI.out] at c34
    have hm1 : P.peers.length + 1 ≤ maxLen := by have := HO.out.cnt; unfold maxLen; omega
    have hm2 : (P.peers.length + 1) * 16 ≤ 140737488355328 := by have := HO.out.cnt; omega
    go_wp2_with (at_builtin; refine wpList_appL rfl _ _ 24 rfl B 9 _ 1 16 Twin.infoS rfl (by decide) Tryd.underlying24 _ _ _ rfl (HO.out.pe.alloc _) ⟨w.heap.size + 2, 0, none⟩ 1 1 [.string value] rfl rfl (news_block (cs := #[.string value]) (by rw [← hz0]; exact Go.heap_alloc_new _ _)) (by simp [Value.oneCell']) (by decide) hm1 hm2 (by simp; omega) ?_)
    intro g cap w3 ho3 hgr3 hlie _
    have hb2 : Below w1.heap.size w1 (w1.alloc (.cells #[.string value] 9)) := (Below.refl _ _).alloc (Nat.le_refl _) _
    have HO3 := Lib.hid (HO.out.peer hvs ho3 hgr3 (hlie.imp id (fun e => by rw [e]; simp; omega)))
    have hk3 : KeptT w1 w3 := (KeptT.of_below hb2).trans (KeptT.grown (HO.out.pe.alloc _) hgr3 (Or.inl rfl))
    have hA3 : Lb w3 w.heap.size 28 P.lk tv pv ov mv := hk3.2 _ _ _ _ (by decide) (by decide) (by decide) HA.out
    have HZ3 : Hid (w3.heap[w.heap.size + 1]? = some (.cells Twin.zeroL 28 (0, 0))) := hk3.2 _ _ _ _ (by decide) (by decide) (by decide) HZ.out
    have HB3 : Hid (Below B w w3) := (HBB.out.alloc (by omega) _).grown hgr3 (by simp; omega) (fun k hk => (HO.out.pe.lt k hk).1)
    have HK3 : Hid (KeptT w w3) := HK0.out.trans hk3
    have hsz3 := hk3.1
    have HA3 := Lib.hid hA3
    have d34 := hA3.cell 34
    rw [lcells_34 HI.out] at d34
    have f34 := Lb.frozen hA3 34
    obtain ⟨W1, hW1⟩ : ∃ W1, w3.setCell ⟨w.heap.size, 34, none⟩ (.slice (some ⟨g, 0, none⟩) (P.peers.length + 1) cap) = W1 := ⟨_, rfl⟩
    have hL1 : Lb W1 w.heap.size 28 ({ P with peers := P.peers ++ [value] } : Pk).lk tv (.slice (some ⟨g, 0, none⟩) (P.peers.length + 1) cap) ov mv := by
      have := Lb.set (j := 34) HA3.out (.slice (some ⟨g, 0, none⟩) (P.peers.length + 1) cap)
      rw [Twin.lcells_set34 HI.out, hW1] at this
      exact this
    have HL1 := Lib.hid hL1
    have hg1 : w3.grownBy W1 (some w.heap.size) := hW1 ▸ grown_setCell _ _ _ _
    have HZ1 : Hid (W1.heap[w.heap.size + 1]? = some (.cells Twin.zeroL 28 (0, 0))) := (hg1.block _ (by omega) (by simp)).trans HZ3.out
    have HO1 : Hid (OL W1 B (N + 1) ({ P with peers := P.peers ++ [value] } : Pk) tv (.slice (some ⟨g, 0, none⟩) (P.peers.length + 1) cap) ov mv) := HO3.out.turn hg1 HA3.out (by decide) (by decide) (by decide)
    have HB1 : Hid (Below B w W1) := Below.turn HB3.out hg1 hB (by omega)
    have HK1 : Hid (KeptT w W1) := HK3.out.turn hg1 (Nat.le_refl _)
    clear hL1 hg1 hA3 hk3 ho3 hgr3 hlie hb2 c34
    obtain ⟨w6, hs6, HL6, HO6, HB6, HK6⟩ := FIN.out W1 ({ P with peers := P.peers ++ [value] } : Pk) tv (.slice (some ⟨g, 0, none⟩) (P.peers.length + 1) cap) ov mv HO1.out HL1.out HZ1.out HB1.out HK1.out
    have HS6 := Lib.hid (sizeLQ (X := (({ P with peers := P.peers ++ [value] } : Pk)).lk) HI.out tv (.slice (some ⟨g, 0, none⟩) (P.peers.length + 1) cap) ov mv)
    have hl6 := HLL.out ({ P with peers := P.peers ++ [value] } : Pk) tv (.slice (some ⟨g, 0, none⟩) (P.peers.length + 1) cap) ov mv HI.out
    go_wp2_with (refine wpList_load_row rfl 28 _ rfl w.heap.size rfl 28 (lcells (({ P with peers := P.peers ++ [value] } : Pk)).lk tv (.slice (some ⟨g, 0, none⟩) (P.peers.length + 1) cap) ov mv).toArray (0, 0) _ HL1.out Tryd.underlying28 rfl HS6.out ?_)
    refine bodyPost_ret (results_row1 rfl rfl HL6.out Tryd.underlying28 rfl HS6.out) rfl ⟨⟨_, _, _, _, by rw [HE.out]; rfl, by rw [HE.out]; exact HO6.out⟩, HB6.out, HK6.out⟩
  · have HE : Hid (holdP P key value = (({ P with more := P.more ++ [(key, value)] } : Pk), 0)) := by
      refine Lib.hid ?_
      unfold holdP; rw [HK.out]; simp
    have c36 := HA.out.cell 36
    rw [lcells_36 HI.out] at c36
    have hm1 : P.more.length + 1 ≤ maxLen := by have := HO.out.cnt; unfold maxLen; omega
    have hm2 : (P.more.length + 1) * 96 ≤ 140737488355328 := by have := HO.out.cnt; omega
    go_wp2_with (at_builtin; refine wpList_appL rfl _ _ 26 rfl B 55 _ 6 96 Twin.infoP rfl (by decide) Tryd.underlying26 _ _ _ rfl (HO.out.mo.alloc _) ⟨w.heap.size + 2, 0, none⟩ 1 1 [.string key, .int .i64 2, .int .i64 0, .string value, .slice none 0 0, .slice none 0 0] rfl rfl (news_block (cs := #[.string key, .int .i64 2, .int .i64 0, .string value, .slice none 0 0, .slice none 0 0]) (by rw [← hz0]; exact Go.heap_alloc_new _ _)) (by simp [Value.oneCell']) (by decide) hm1 hm2 (by simp; omega) ?_)
    intro g cap w3 ho3 hgr3 hlie _
    have hb2 : Below w1.heap.size w1 (w1.alloc (.cells #[.string key, .int .i64 2, .int .i64 0, .string value, .slice none 0 0, .slice none 0 0] 55)) := (Below.refl _ _).alloc (Nat.le_refl _) _
    have HO3 := Lib.hid (HO.out.pair hks hvs ho3 hgr3)
    have hk3 : KeptT w1 w3 := (KeptT.of_below hb2).trans (KeptT.grown (HO.out.mo.alloc _) hgr3 (Or.inr (Or.inr rfl)))
    have hA3 : Lb w3 w.heap.size 28 P.lk tv pv ov mv := hk3.2 _ _ _ _ (by decide) (by decide) (by decide) HA.out
    have HZ3 : Hid (w3.heap[w.heap.size + 1]? = some (.cells Twin.zeroL 28 (0, 0))) := hk3.2 _ _ _ _ (by decide) (by decide) (by decide) HZ.out
    have HB3 : Hid (Below B w w3) := (HBB.out.alloc (by omega) _).grown hgr3 (by simp; omega) (fun k hk => (HO.out.mo.lt k hk).1)
    have HK3 : Hid (KeptT w w3) := HK0.out.trans hk3
    have hsz3 := hk3.1
    have HA3 := Lib.hid hA3
    have d36 := hA3.cell 36
    rw [lcells_36 HI.out] at d36
    have f36 := Lb.frozen hA3 36
    obtain ⟨W1, hW1⟩ : ∃ W1, w3.setCell ⟨w.heap.size, 36, none⟩ (.slice (some ⟨g, 0, none⟩) (P.more.length + 1) cap) = W1 := ⟨_, rfl⟩
    have hL1 : Lb W1 w.heap.size 28 ({ P with more := P.more ++ [(key, value)] } : Pk).lk tv pv ov (.slice (some ⟨g, 0, none⟩) (P.more.length + 1) cap) := by
      have := Lb.set (j := 36) HA3.out (.slice (some ⟨g, 0, none⟩) (P.more.length + 1) cap)
      rw [lcells_set36 HI.out, hW1] at this
      exact this
    have HL1 := Lib.hid hL1
    have hg1 : w3.grownBy W1 (some w.heap.size) := hW1 ▸ grown_setCell _ _ _ _
    have HZ1 : Hid (W1.heap[w.heap.size + 1]? = some (.cells Twin.zeroL 28 (0, 0))) := (hg1.block _ (by omega) (by simp)).trans HZ3.out
    have HO1 : Hid (OL W1 B (N + 1) ({ P with more := P.more ++ [(key, value)] } : Pk) tv pv ov (.slice (some ⟨g, 0, none⟩) (P.more.length + 1) cap)) := HO3.out.turn hg1 HA3.out (by decide) (by decide) (by decide)
    have HB1 : Hid (Below B w W1) := Below.turn HB3.out hg1 hB (by omega)
    have HK1 : Hid (KeptT w W1) := HK3.out.turn hg1 (Nat.le_refl _)
    clear hL1 hg1 hA3 hk3 ho3 hgr3 hlie hb2 c36
    obtain ⟨w6, hs6, HL6, HO6, HB6, HK6⟩ := FIN.out W1 ({ P with more := P.more ++ [(key, value)] } : Pk) tv pv ov (.slice (some ⟨g, 0, none⟩) (P.more.length + 1) cap) HO1.out HL1.out HZ1.out HB1.out HK1.out
    have HS6 := Lib.hid (sizeLQ (X := (({ P with more := P.more ++ [(key, value)] } : Pk)).lk) HI.out tv pv ov (.slice (some ⟨g, 0, none⟩) (P.more.length + 1) cap))
    have hl6 := HLL.out ({ P with more := P.more ++ [(key, value)] } : Pk) tv pv ov (.slice (some ⟨g, 0, none⟩) (P.more.length + 1) cap) HI.out
    go_wp2_with (refine wpList_load_row rfl 28 _ rfl w.heap.size rfl 28 (lcells (({ P with more := P.more ++ [(key, value)] } : Pk)).lk tv pv ov (.slice (some ⟨g, 0, none⟩) (P.more.length + 1) cap)).toArray (0, 0) _ HL1.out Tryd.underlying28 rfl HS6.out ?_)
    refine bodyPost_ret (results_row1 rfl rfl HL6.out Tryd.underlying28 rfl HS6.out) rfl ⟨⟨_, _, _, _, by rw [HE.out]; rfl, by rw [HE.out]; exact HO6.out⟩, HB6.out, HK6.out⟩

end Go.Proofs.YtdfiblaboddbjaaDoor.Prs
