/-
  The document's Parse.
-/
import Derived.Test.YtdfiblaboddbjaaDoorMagPrsP
import Derived.Deep.RegionHeld3
import Derived.Deep.MidRow
namespace Go.Proofs.YtdfiblaboddbjaaDoor.Prs
open Go.RowKit Go.Proofs.YtdfiblaboddbjaaDoor.Base Go.Proofs.YtdfiblaboddbjaaDoor.Rep Go.Proofs.YtdfiblaboddbjaaDoor.Mag Go.Proofs.YtdfiblaboddbjaaDoor.Has
set_option linter.unusedVariables false
set_option linter.unusedSimpArgs false

/-- The nil link's cells. -/
def bareC : List Value := lcells Pk.bare.lk (.slice none 0 0) (.slice none 0 0) (.slice none 0 0) (.slice none 0 0)
theorem bareC_eq : bareC.toArray = Twin.zeroL := by kernel_rfl
theorem built0 : Tryd.prog.built 28 [] = some bareC.toArray := by rw [bareC_eq]; kernel_rfl
theorem run_build0 (w : World) : (Instr.build 28 #[]).run Tryd.prog w = .ok (.agg bareC.toArray) w := run_build w _ _ _ built0
attribute [-go_sem] Instr.build Instr.loadAt
attribute [local go_sem] run_build0
theorem bareC_len : bareC.length = 37 := by kernel_rfl

theorem find_none {s : ByteArray} {frm : Nat} (h : ∀ j (hj : j < s.size), frm ≤ j → s[j] ≠ 38) : (s.data.toList.drop frm).findIdx? (fun b => b == 38) = none := by
  rw [List.findIdx?_eq_none_iff]
  intro x hx
  obtain ⟨j, hj, rfl⟩ := List.getElem_of_mem hx
  have hj' : frm + j < s.size := by simp at hj; omega
  rw [List.getElem_drop]
  have := h (frm + j) hj' (by omega)
  have e : s.data.toList[frm + j]'(by simpa using hj') = s[frm + j] := rfl
  rw [e]
  simpa using this
theorem find_some {s : ByteArray} {frm i : Nat} (hi : i < s.size) (hf : frm ≤ i) (h38 : s[i] = 38) (h : ∀ j (hj : j < s.size), frm ≤ j → j < i → s[j] ≠ 38) : (s.data.toList.drop frm).findIdx? (fun b => b == 38) = some (i - frm) := by
  rw [List.findIdx?_eq_some_iff_getElem]
  refine ⟨by simp; omega, ?_, fun j hj => ?_⟩
  · rw [List.getElem_drop]
    simp only [show frm + (i - frm) = i by omega]
    show (s[i] == 38) = true
    rw [h38]; rfl
  · rw [List.getElem_drop]
    have := h (frm + j) (by omega) (by omega) (by omega)
    have e : s.data.toList[frm + j]'(by simp; omega) = s[frm + j] := rfl
    rw [e]
    simpa using this

theorem parseF_last {f o n : Nat} {rest : List UInt8} {P : Pk} {last : ByteArray} (h : rest.findIdx? (fun b => b == 38) = none) :
    parseF (f + 1) rest o P n last = if (stepP P n last rest).2.2.2 ≠ 0 then (Pk.bare, (o : Int) + (stepP P n last rest).2.2.1, (stepP P n last rest).2.2.2) else ((stepP P n last rest).1, 0, 0) := by
  rw [parseF, h]
theorem parseF_more {f o n q : Nat} {rest : List UInt8} {P : Pk} {last : ByteArray} (h : rest.findIdx? (fun b => b == 38) = some q) :
    parseF (f + 1) rest o P n last = if (stepP P n last (rest.take q)).2.2.2 ≠ 0 then (Pk.bare, (o : Int) + (stepP P n last (rest.take q)).2.2.1, (stepP P n last (rest.take q)).2.2.2)
      else parseF f (rest.drop (q + 1)) (o + q + 1) (stepP P n last (rest.take q)).1 (n + 1) (stepP P n last (rest.take q)).2.1 := by
  rw [parseF, h]
theorem stepP_off (P : Pk) (n : Nat) (last : ByteArray) (l : List UInt8) : 0 ≤ (stepP P n last l).2.2.1 ∧ (stepP P n last l).2.2.1 ≤ l.length + 1 := by
  rcases plc_range l 61 with hq | ⟨m, hm, hq⟩
  · rw [stepP_a (by omega)]; simp; omega
  · by_cases h0 : m = 0
    · rw [stepP_a (by omega)]; simp; omega
    · cases hu : une 0 (l.take m) with
      | error i =>
        rw [stepP_b hq (by omega) hu]
        have := une_err _ _ _ _ (Nat.le_refl _) hu
        simp at this ⊢; omega
      | ok kl =>
        cases hv : une 0 (l.drop (m + 1)) with
        | error i =>
          rw [stepP_c hq (by omega) hu hv]
          have := une_err _ _ _ _ (Nat.le_refl _) hv
          simp at this ⊢; omega
        | ok vl =>
          rw [stepP_d hq (by omega) hu hv]
          split <;> simp <;> omega

/-- Where the document's loop stands. -/
def Stands (s : ByteArray) (i frm n : Nat) (last : ByteArray) (P : Pk) : Prop :=
  (i ≤ s.size ∧ frm ≤ i ∧ n ≤ frm ∧ (∀ j (hj : j < s.size), frm ≤ j → j < i → s[j] ≠ 38) ∧ ∃ f, s.size - frm < f ∧ parseS s.data.toList = parseF f (s.data.toList.drop frm) frm P n last) ∨ (i = s.size + 1 ∧ parseS s.data.toList = (P, 0, 0))

set_option maxHeartbeats 16000000 in
set_option maxRecDepth 100000 in
theorem rparse (s : ByteArray) (w : World) (hs : s.size ≤ 1048576) :
    Calls Tryd.prog 15 #[.string s] w fun e w' => (∃ tv pv ov mv, e = .returned (.tuple #[.agg (lcells (parseS s.data.toList).1.lk tv pv ov mv).toArray, .int .i64 (parseS s.data.toList).2.1, .int .i64 (parseS s.data.toList).2.2]) ∧ OL w' w.heap.size 5000 (parseS s.data.toList).1 tv pv ov mv) ∧ Below w.heap.size w w' := by
  have hsl : s.data.toList.length = s.size := by simp
  have hB0 : Below w.heap.size w (w.alloc (.cells Twin.zeroL 28)) := (Below.refl _ _).alloc (Nat.le_refl _) _
  have hZ : (w.alloc (.cells Twin.zeroL 28)).heap[w.heap.size]? = some (.cells Twin.zeroL 28 (0, 0)) := Go.heap_alloc_new w _
  obtain ⟨W0, hW0⟩ : ∃ W0, w.alloc (.cells Twin.zeroL 28) = W0 := ⟨_, rfl⟩
  have hz0 : W0.heap.size = w.heap.size + 1 := by rw [← hW0]; simp
  rw [hW0] at hB0 hZ
  -- an error: the nil link is stored into the result's variable
  have bad : ∀ (w5 : World), w5.heap[w.heap.size]? = some (.cells Twin.zeroL 28 (0, 0)) → Below w.heap.size w w5 →
      ∃ w6, (storeCells ⟨w.heap.size, 0, none⟩ bareC).run Tryd.prog w5 = .ok () w6 ∧ Hid (w6.heap[w.heap.size]? = some (.cells bareC.toArray 28 (0, 0))) ∧ Hid (OL w6 w.heap.size 5000 Pk.bare (.slice none 0 0) (.slice none 0 0) (.slice none 0 0) (.slice none 0 0)) ∧ Hid (Below w.heap.size w w6) := by
    intro w5 h1 h2
    have h0 := OL.bare w5 w.heap.size 5000
    refine ⟨_, h0.store w5 _ _ rfl h1, setRow_heap _ _ _ _ _ _ h1, h0.turn (grown_setRow _ _ _) h1 (by decide) (by decide) (by decide), Below.turn h2 (grown_setRow _ _ _) (Nat.le_refl _) h2.size⟩
  have BAD := Lib.hid bad
  have HZ := Lib.hid hZ
  have HB0 := Lib.hid hB0
  have hbl := bareC_len
  have HSB : Hid ((Tryd.prog.info? 28).map (·.size) = some bareC.toArray.size) := by
    simp only [List.size_toArray, bareC_len]; exact Twin.sizeL
  clear hZ hB0 bad
  go_enter Tryd.func15, Tryd.ntmps15
  by_cases h4 : 4096 < s.size
  · have HP : Hid (parseS s.data.toList = (Pk.bare, 0, 221)) := by unfold parseS; rw [if_pos (by rw [hsl]; exact h4)]; rfl
    have h4' : (4096 : Int) < (s.size : Int) := by omega
    obtain ⟨w6, hs6, HL6, HO6, HB6⟩ := BAD.out W0 HZ.out HB0.out
    go_wp2
    refine bodyPost_ret (results_row2 rfl rfl HL6.out Tryd.underlying28 rfl HSB.out) rfl ⟨⟨_, _, _, _, by rw [HP.out]; rfl, by rw [HP.out]; exact HO6.out⟩, HB6.out⟩
  have h4' : ¬ (4096 : Int) < (s.size : Int) := by omega
  go_wp2_with fail
  refine (rstarts s ⟨#[109, 97, 103, 110, 101, 116, 58, 63]⟩ W0).mono ?_
  rintro e w1 ⟨rfl, rfl⟩
  obtain ⟨pb, hpb⟩ : ∃ pb, preB (⟨#[109, 97, 103, 110, 101, 116, 58, 63]⟩ : ByteArray).data.toList s = pb := ⟨_, rfl⟩
  have hpb' : begins.isPrefixOf s.data.toList = pb := hpb
  rw [hpb]
  clear hpb
  cases pb with
  | false =>
    have HP : Hid (parseS s.data.toList = (Pk.bare, 0, 220)) := by unfold parseS; rw [if_neg (by rw [hsl]; exact h4), if_neg (by rw [hpb']; simp)]; rfl
    obtain ⟨w6, hs6, HL6, HO6, HB6⟩ := BAD.out w1 HZ.out HB0.out
    clear hpb'
    go_wp2
    refine bodyPost_ret (results_row2 rfl rfl HL6.out Tryd.underlying28 rfl HSB.out) rfl ⟨⟨_, _, _, _, by rw [HP.out]; rfl, by rw [HP.out]; exact HO6.out⟩, HB6.out⟩
  | true =>
  have h8 : 8 ≤ s.size := by
    have := (List.isPrefixOf_iff_prefix.1 hpb').length_le
    rw [hsl] at this; exact this
  have HP : Hid (parseS s.data.toList = parseF (s.size + 1) (s.data.toList.drop 8) 8 Pk.bare 0 ⟨#[]⟩) := by unfold parseS; rw [if_neg (by rw [hsl]; exact h4), if_pos hpb', hsl]; rfl
  clear hpb'
  have HL1 : Hid (Lb (w1.alloc (.cells Twin.zeroL 28)) (w.heap.size + 1) 28 Pk.bare.lk (.slice none 0 0) (.slice none 0 0) (.slice none 0 0) (.slice none 0 0)) := by
    have := Go.heap_alloc_new w1 (.cells Twin.zeroL 28)
    rw [hz0, ← bareC_eq] at this
    exact this
  have hba : Below w1.heap.size w1 (w1.alloc (.cells Twin.zeroL 28)) := (Below.refl _ _).alloc (Nat.le_refl _) _
  have hza : (w1.alloc (.cells Twin.zeroL 28)).heap.size = w.heap.size + 2 := by simp; omega
  obtain ⟨W1, hW1⟩ : ∃ W1, w1.alloc (.cells Twin.zeroL 28) = W1 := ⟨_, rfl⟩
  rw [hW1] at HL1 hba hza
  have HZ1 : Hid (W1.heap[w.heap.size]? = some (.cells Twin.zeroL 28 (0, 0))) := (hba.block _ (by omega)).trans HZ.out
  have HB1 : Hid (Below w.heap.size w W1) := HB0.out.trans (hba.mono (by omega))
  clear hba
  go_wp2_with fail
  go_loopw [7, 8, 9, 10] (fun v7 v8 v9 v10 wr => ∃ (i frm n : Nat) (last : ByteArray) (P : Pk) (tv pv ov mv : Value), i ≤ s.size + 1 ∧ frm ≤ 4097 ∧ n ≤ 4097 ∧ v10 = .int .i64 (i : Int) ∧ v9 = .int .i64 (frm : Int) ∧ v8 = .int .i64 (n : Int) ∧ v7 = .string last ∧ Below w.heap.size w wr ∧ Hid (OL wr w.heap.size n P tv pv ov mv) ∧ Hid (Lb wr (w.heap.size + 1) 28 P.lk tv pv ov mv) ∧ Hid (wr.heap[w.heap.size]? = some (.cells Twin.zeroL 28 (0, 0))) ∧ Hid (Stands s i frm n last P)) (fun _ _ _ v10 _ => s.size + 2 - (intOf v10).toNat)
  case atStart =>
    exact ⟨8, 8, 0, ⟨#[]⟩, Pk.bare, _, _, _, _, by omega, by omega, by omega, rfl, rfl, rfl, rfl, HB1.out, OL.bare _ _ _, HL1.out, HZ1.out, Or.inl ⟨h8, Nat.le_refl _, Nat.zero_le _, fun j hj h1 h2 => by omega, s.size + 1, by omega, HP.out⟩⟩
  case round =>
    obtain ⟨i, frm, n, last, P, tv, pv, ov, mv, hi1, hfrm, hn, rfl, rfl, rfl, rfl, hB, HO, HL, HZr, HST⟩ := hrel
    have hwr := hB.size
    have hi0 : (0 : Int) ≤ (i : Int) := by omega
    rcases HST.out with ⟨his, hfi, hnf, hno, f0, hf0, hsp⟩ | ⟨hie, hsp⟩
    · have hil : (i : Int) ≤ (s.size : Int) := by omega
      have HNO := Lib.hid hno
      have HSP := Lib.hid hsp
      clear hno hsp HST
      by_cases hgo : ∃ h : i < s.size, s[i] ≠ 38
      · obtain ⟨hlt, h38⟩ := hgo
        have hlt' : (i : Int) < (s.size : Int) := by omega
        have h38' : ((s[i].toNat : Int) == 38) = false := by
          have : s[i].toNat ≠ 38 := fun e => h38 (by rw [← UInt8.toNat_inj]; exact e)
          simp; omega
        have HS2 : Hid (Stands s (i + 1) frm n last P) := Or.inl ⟨by omega, by omega, hnf, fun j hj h1 h2 => by
          by_cases e : j = i
          · subst e; exact h38
          · exact HNO.out j hj h1 (by omega), f0, hf0, HSP.out⟩
        go_wp2
        exact ⟨⟨i + 1, frm, n, last, P, tv, pv, ov, mv, by omega, hfrm, hn, by go_num, rfl, rfl, rfl, hB, HO, HL, HZr, HS2⟩, by simp [intOf]; omega⟩
      · have hseg : (s.extract frm i).data.toList = (s.data.toList.drop frm).take (i - frm) := by
          simp [ByteArray.data_extract]
        have hsz : (s.extract frm i).size ≤ 1048576 := by simp [ByteArray.size_extract]; omega
        obtain ⟨f, rfl⟩ : ∃ f, f0 = f + 1 := ⟨f0 - 1, by omega⟩
        obtain ⟨seg, hsg⟩ : ∃ seg, s.extract frm i = seg := ⟨_, rfl⟩
        rw [hsg] at hseg hsz
        have HSEG := Lib.hid hseg
        have HSG := Lib.hid hsg
        have hcond : (¬ i < s.size) ∨ (∃ h : i < s.size, s[i] = 38) := by
          rcases Nat.lt_or_ge i s.size with h1 | h1
          · right
            refine ⟨h1, ?_⟩
            by_cases e : s[i] = 38
            · exact e
            · exact absurd ⟨h1, e⟩ hgo
          · left; omega
        have HCO := Lib.hid hcond
        have hf1 : (0 : Int) ≤ (frm : Int) := by omega
        have hf2 : (frm : Int) ≤ (i : Int) := by omega
        have hld : ∀ w' : World, w'.rangeAt (w.heap.size + 1) 0 (lcells P.lk tv pv ov mv) → (Instr.loadAt 28 (.pointer (some ⟨w.heap.size + 1, 0, none⟩))).run Tryd.prog w' = .ok (.agg (lcells P.lk tv pv ov mv).toArray) w' := fun w' h =>
          run_loadAt_mid w' (w.heap.size + 1) 0 28 _ _ h Tryd.underlying28 rfl (by rw [lcells_length (X := P.lk) HO.out.info]; exact Twin.sizeL)
        have hrg : ∀ w' : World, Lb w' (w.heap.size + 1) 28 P.lk tv pv ov mv → w'.rangeAt (w.heap.size + 1) 0 (lcells P.lk tv pv ov mv) := fun w' h j v hv => by
          rw [Nat.zero_add, h.cell j]; exact hv
        have HRG := Lib.hid hrg
        have HLd : Hid (Lb wr.drew (w.heap.size + 1) 28 P.lk tv pv ov mv) := HL.out
        have HPC := Lib.hid (rpart P tv pv ov mv n last seg w.heap.size n wr.drew (HO.out.below ((Below.refl _ _).drew)) hwr (by omega) (by omega) hsz)
        have hOa : OL (wr.alloc (.cells Twin.zeroL 28)).drew w.heap.size n P tv pv ov mv := HO.out.below (((Below.refl _ _).alloc (Nat.le_refl _) _).drew)
        have HPC2 := Lib.hid (rpart P tv pv ov mv n last seg w.heap.size n (wr.alloc (.cells Twin.zeroL 28)).drew hOa (by simp; omega) (by omega) (by omega) hsz)
        have HLa : Hid (∀ ob, Lb (wr.alloc ob).drew (w.heap.size + 1) 28 P.lk tv pv ov mv) := fun ob => HL.out.below (((Below.refl _ _).alloc (Nat.le_refl _) _).drew)
        have HLk : Hid (∀ w1 w2 : World, KeptT w1 w2 → Lb w1 (w.heap.size + 1) 28 P.lk tv pv ov mv → Lb w2 (w.heap.size + 1) 28 P.lk tv pv ov mv) := fun w1 w2 hk hl => hk.2 _ _ _ _ (by decide) (by decide) (by decide) hl
        have HLn : Hid (∀ (w1 : World) (ob : Obj), Lb w1 (w.heap.size + 1) 28 P.lk tv pv ov mv → Lb (w1.alloc ob) (w.heap.size + 1) 28 P.lk tv pv ov mv) := fun w1 ob hl => hl.below ((Below.refl _ _).alloc (Nat.le_refl _) _)
        have HLs : Hid (∀ (w1 : World) (g : Nat) (cs : Array Value), w.heap.size + 1 < g → Lb w1 (w.heap.size + 1) 28 P.lk tv pv ov mv → Lb (w1.setRow g cs) (w.heap.size + 1) 28 P.lk tv pv ov mv) := fun w1 g cs h hl => (setRow_other _ _ _ _ (by omega)).trans hl
        have hltr := HL.out.lt
        have hex : ∀ x : Nat, x = x := fun _ => rfl
        clear hrg hOa hseg hcond hgo hex
        rcases HCO.out with hge | ⟨hlt, h38⟩
        · have hlt' : ¬ (i : Int) < (s.size : Int) := by omega
          go_wp2_with fail
          go_region_held3 (fun w' => w'.rangeAt (w.heap.size + 1) 0 (lcells P.lk tv pv ov mv))
            (first
              | (with_reducible exact HRG.out _ HLd.out)
              | (with_reducible exact HRG.out _ (HLa.out _))
              | (with_reducible exact HRG.out _ HL1.out)
              | (with_reducible exact HRG.out _ (HLn.out _ _ HL1.out))
              | (with_reducible exact HRG.out _ (HLs.out _ _ _ hlt1 (HLn.out _ _ HL1.out)))
              | (with_reducible exact HRG.out _ (HLs.out _ _ _ hltr HL1.out)))
            (first
              | (go_at_call 43; (with_reducible refine HPC.out.mono ?_); rintro e w1 ⟨⟨Q, t5, p5, o5, m5, key', rfl, hO1, hq1⟩, hb1, hk1⟩; have HL1 := Lib.hid (HLk.out _ _ hk1 HLd.out); have HO1 := Lib.hid hO1; have HQ1 := Lib.hid hq1; have HK1 := Lib.hid hk1; have hlt1 : w.heap.size + 1 < w1.heap.size := HL1.out.lt; have hs := hO1.store (w1.alloc (.cells Twin.zeroL 28)) w1.heap.size Twin.zeroL rfl (Go.heap_alloc_new _ _); have hl5 : (lcells Q.lk t5 p5 o5 m5).length = 37 := lcells_length (X := Q.lk) hO1.info _ _ _ _; have HB1 := Lib.hid hb1; clear hO1 hq1 hk1 hb1)
              | (go_at_call 43; (with_reducible refine HPC2.out.mono ?_); rintro e w1 ⟨⟨Q, t5, p5, o5, m5, key', rfl, hO1, hq1⟩, hb1, hk1⟩; have HL1 := Lib.hid (HLk.out _ _ hk1 (HLa.out _)); have HO1 := Lib.hid hO1; have HQ1 := Lib.hid hq1; have HK1 := Lib.hid hk1; have HW1 : Hid (w1.heap[wr.heap.size]? = some (.cells Twin.zeroL 28 (0, 0))) := hk1.2 _ _ _ _ (by decide) (by decide) (by decide) (Go.heap_alloc_new wr _); have hs := hO1.store w1 wr.heap.size Twin.zeroL rfl HW1.out; have hl5 : (lcells Q.lk t5 p5 o5 m5).length = 37 := lcells_length (X := Q.lk) hO1.info _ _ _ _; have HB1 := Lib.hid hb1; clear hO1 hq1 hk1 hb1))
          have hr := setRow_new w1 Twin.zeroL 28 (lcells Q.lk t5 p5 o5 m5).toArray
          obtain ⟨W7, hW7⟩ : ∃ W7, (w1.alloc (.cells Twin.zeroL 28)).setRow w1.heap.size (lcells Q.lk t5 p5 o5 m5).toArray = W7 := ⟨_, rfl⟩
          obtain ⟨b11, hb11⟩ : ∃ b11, w1.heap.size = b11 := ⟨_, rfl⟩
          rw [hW7] at hr
          have HL11 : Hid (Lb W7 b11 28 Q.lk t5 p5 o5 m5) := by rw [← hb11]; exact hr.1
          have HO7 : Hid (OL W7 w.heap.size (n + 1) Q t5 p5 o5 m5) := HO1.out.below hr.2.1
          have HLp : Hid (Lb W7 (w.heap.size + 1) 28 P.lk tv pv ov mv) := HL1.out.below hr.2.1
          have HZw : w1.heap[w.heap.size]? = some (.cells Twin.zeroL 28 (0, 0)) := HK1.out.2 _ _ _ _ (by decide) (by decide) (by decide) HZr.out
          have HZ7 : Hid (W7.heap[w.heap.size]? = some (.cells Twin.zeroL 28 (0, 0))) := (hr.2.1.block _ ((Array.getElem?_eq_some_iff.1 HZw).1)).trans HZw
          have HBw : Below w.heap.size w w1 := hB.drew.trans HB1.out
          have HB7 : Hid (Below w.heap.size w W7) := HBw.trans (hr.2.1.mono HBw.size)
          clear hr HZw HBw hs hlt1
          rw [hW7]
          simp only [hb11]
          clear hW7 hb11 HK1 HB1 HL1 HO1
          have HFI : Hid ((s.data.toList.drop frm).findIdx? (fun b => b == 38) = none) := find_none (fun j hj h => HNO.out j hj h (by omega))
          have HRS : Hid (s.data.toList.drop frm = seg.data.toList) := by
            rw [HSEG.out, List.take_of_length_le (by simp; omega)]; rfl
          have hoff := stepP_off P n last seg.data.toList
          obtain ⟨er, her⟩ : ∃ er, (stepP P n last seg.data.toList).2.2.2 = er := ⟨_, rfl⟩
          obtain ⟨off, hof⟩ : ∃ off, (stepP P n last seg.data.toList).2.2.1 = off := ⟨_, rfl⟩
          rw [her, hof]
          rw [hof] at hoff
          have hsgl : seg.data.toList.length ≤ 1048576 := by simpa using hsz
          have HER := Lib.hid her
          have HOF := Lib.hid hof
          have HQ2 : Hid (er = 0 → Q = (stepP P n last seg.data.toList).1 ∧ key' = (stepP P n last seg.data.toList).2.1) := by rw [← HER.out]; exact HQ1.out
          clear her hof HQ1
          by_cases he : er ≠ 0
          · have HX : Hid (parseS s.data.toList = (Pk.bare, (frm : Int) + off, er)) := by
              rw [HSP.out, parseF_last HFI.out, HRS.out, if_pos (by rw [HER.out]; exact he), HER.out, HOF.out]; rfl
            obtain ⟨w6, hs6, HL6, HO6, HB6⟩ := BAD.out W7 HZ7.out HB7.out
            have he' : (er == 0) = false := by simpa using he
            go_wp2
            refine bodyPost_ret (results_row2 rfl rfl HL6.out Tryd.underlying28 rfl HSB.out) rfl ⟨⟨_, _, _, _, by rw [HX.out]; rfl, by rw [HX.out]; exact HO6.out⟩, HB6.out⟩
          · obtain rfl : er = 0 := by simpa using he
            have hq2 := HQ2.out rfl
            have HS2 : Hid (Stands s (i + 1) (i + 1) (n + 1) key' Q) := by
              refine Or.inr ⟨by omega, ?_⟩
              rw [HSP.out, parseF_last HFI.out, HRS.out, if_neg (by rw [HER.out]; simp), hq2.1]
            have hs8 := HO7.out.store W7 (w.heap.size + 1) _ (by simp [lcells_length (X := P.lk) HO.out.info]) HLp.out
            obtain ⟨W8, hW8⟩ : ∃ W8, W7.setRow (w.heap.size + 1) (lcells Q.lk t5 p5 o5 m5).toArray = W8 := ⟨_, rfl⟩
            rw [hW8] at hs8
            have hg8 : W7.grownBy W8 (some (w.heap.size + 1)) := hW8 ▸ grown_setRow _ _ _
            have HL8 : Hid (Lb W8 (w.heap.size + 1) 28 Q.lk t5 p5 o5 m5) := by rw [← hW8]; exact setRow_heap _ _ _ _ _ _ HLp.out
            have HO8 : Hid (OL W8 w.heap.size (n + 1) Q t5 p5 o5 m5) := HO7.out.turn hg8 HLp.out (by decide) (by decide) (by decide)
            have HZ8 : Hid (W8.heap[w.heap.size]? = some (.cells Twin.zeroL 28 (0, 0))) := (hg8.block _ ((Array.getElem?_eq_some_iff.1 HZ7.out).1) (by simp)).trans HZ7.out
            have HB8 : Hid (Below w.heap.size w W8) := Below.turn HB7.out hg8 (by omega) HB7.out.size
            have HS7 := Lib.hid (sizeLQ (X := Q.lk) HO7.out.info t5 p5 o5 m5)
            clear hq2 hg8 he
            go_wp2_with (refine wpList_load_row rfl 28 _ rfl b11 rfl 28 (lcells Q.lk t5 p5 o5 m5).toArray (0, 0) _ HL11.out Tryd.underlying28 rfl HS7.out ?_)
            exact ⟨⟨i + 1, i + 1, n + 1, key', Q, t5, p5, o5, m5, by omega, by omega, by omega, by go_num, by go_num, by go_num, rfl, HB8.out, HO8, HL8, HZ8, HS2⟩, by simp [intOf]; omega⟩
          obtain ⟨W7, hW7⟩ : ∃ W7, w1.setRow wr.heap.size (lcells Q.lk t5 p5 o5 m5).toArray = W7 := ⟨_, rfl⟩
          obtain ⟨b11, hb11⟩ : ∃ b11, wr.heap.size = b11 := ⟨_, rfl⟩
          have hg7 : w1.grownBy W7 (some wr.heap.size) := hW7 ▸ grown_setRow _ _ _
          have HL11 : Hid (Lb W7 b11 28 Q.lk t5 p5 o5 m5) := by rw [← hb11, ← hW7]; exact setRow_heap _ _ _ _ _ _ HW1.out
          have HO7 : Hid (OL W7 w.heap.size (n + 1) Q t5 p5 o5 m5) := HO1.out.turn hg7 HW1.out (by decide) (by decide) (by decide)
          have HLp : Hid (Lb W7 (w.heap.size + 1) 28 P.lk tv pv ov mv) := (hg7.block _ HL1.out.lt (by simp; omega)).trans HL1.out
          have HZa : (wr.alloc (.cells Twin.zeroL 28)).drew.heap[w.heap.size]? = some (.cells Twin.zeroL 28 (0, 0)) := (Below.heap_alloc wr _ _ (by omega)).trans HZr.out
          have HZw : w1.heap[w.heap.size]? = some (.cells Twin.zeroL 28 (0, 0)) := HK1.out.2 _ _ _ _ (by decide) (by decide) (by decide) HZa
          have HZ7 : Hid (W7.heap[w.heap.size]? = some (.cells Twin.zeroL 28 (0, 0))) := (hg7.block _ ((Array.getElem?_eq_some_iff.1 HZw).1) (by simp; omega)).trans HZw
          have HBw : Below w.heap.size w w1 := (hB.alloc hwr _).drew.trans HB1.out
          have HB7 : Hid (Below w.heap.size w W7) := Below.turn HBw hg7 hwr HBw.size
          clear hg7 HZa HZw HBw hs HW1
          rw [hW7]
          simp only [hb11]
          clear hW7 hb11 HK1 HB1 HL1 HO1
          have HFI : Hid ((s.data.toList.drop frm).findIdx? (fun b => b == 38) = none) := find_none (fun j hj h => HNO.out j hj h (by omega))
          have HRS : Hid (s.data.toList.drop frm = seg.data.toList) := by
            rw [HSEG.out, List.take_of_length_le (by simp; omega)]; rfl
          have hoff := stepP_off P n last seg.data.toList
          obtain ⟨er, her⟩ : ∃ er, (stepP P n last seg.data.toList).2.2.2 = er := ⟨_, rfl⟩
          obtain ⟨off, hof⟩ : ∃ off, (stepP P n last seg.data.toList).2.2.1 = off := ⟨_, rfl⟩
          rw [her, hof]
          rw [hof] at hoff
          have hsgl : seg.data.toList.length ≤ 1048576 := by simpa using hsz
          have HER := Lib.hid her
          have HOF := Lib.hid hof
          have HQ2 : Hid (er = 0 → Q = (stepP P n last seg.data.toList).1 ∧ key' = (stepP P n last seg.data.toList).2.1) := by rw [← HER.out]; exact HQ1.out
          clear her hof HQ1
          by_cases he : er ≠ 0
          · have HX : Hid (parseS s.data.toList = (Pk.bare, (frm : Int) + off, er)) := by
              rw [HSP.out, parseF_last HFI.out, HRS.out, if_pos (by rw [HER.out]; exact he), HER.out, HOF.out]; rfl
            obtain ⟨w6, hs6, HL6, HO6, HB6⟩ := BAD.out W7 HZ7.out HB7.out
            have he' : (er == 0) = false := by simpa using he
            go_wp2
            refine bodyPost_ret (results_row2 rfl rfl HL6.out Tryd.underlying28 rfl HSB.out) rfl ⟨⟨_, _, _, _, by rw [HX.out]; rfl, by rw [HX.out]; exact HO6.out⟩, HB6.out⟩
          · obtain rfl : er = 0 := by simpa using he
            have hq2 := HQ2.out rfl
            have HS2 : Hid (Stands s (i + 1) (i + 1) (n + 1) key' Q) := by
              refine Or.inr ⟨by omega, ?_⟩
              rw [HSP.out, parseF_last HFI.out, HRS.out, if_neg (by rw [HER.out]; simp), hq2.1]
            have hs8 := HO7.out.store W7 (w.heap.size + 1) _ (by simp [lcells_length (X := P.lk) HO.out.info]) HLp.out
            obtain ⟨W8, hW8⟩ : ∃ W8, W7.setRow (w.heap.size + 1) (lcells Q.lk t5 p5 o5 m5).toArray = W8 := ⟨_, rfl⟩
            rw [hW8] at hs8
            have hg8 : W7.grownBy W8 (some (w.heap.size + 1)) := hW8 ▸ grown_setRow _ _ _
            have HL8 : Hid (Lb W8 (w.heap.size + 1) 28 Q.lk t5 p5 o5 m5) := by rw [← hW8]; exact setRow_heap _ _ _ _ _ _ HLp.out
            have HO8 : Hid (OL W8 w.heap.size (n + 1) Q t5 p5 o5 m5) := HO7.out.turn hg8 HLp.out (by decide) (by decide) (by decide)
            have HZ8 : Hid (W8.heap[w.heap.size]? = some (.cells Twin.zeroL 28 (0, 0))) := (hg8.block _ ((Array.getElem?_eq_some_iff.1 HZ7.out).1) (by simp)).trans HZ7.out
            have HB8 : Hid (Below w.heap.size w W8) := Below.turn HB7.out hg8 (by omega) HB7.out.size
            have HS7 := Lib.hid (sizeLQ (X := Q.lk) HO7.out.info t5 p5 o5 m5)
            clear hq2 hg8 he
            go_wp2_with (refine wpList_load_row rfl 28 _ rfl b11 rfl 28 (lcells Q.lk t5 p5 o5 m5).toArray (0, 0) _ HL11.out Tryd.underlying28 rfl HS7.out ?_)
            exact ⟨⟨i + 1, i + 1, n + 1, key', Q, t5, p5, o5, m5, by omega, by omega, by omega, by go_num, by go_num, by go_num, rfl, HB8.out, HO8, HL8, HZ8, HS2⟩, by simp [intOf]; omega⟩
        · have hlt' : (i : Int) < (s.size : Int) := by omega
          have h38' : ((s[i].toNat : Int) == 38) = true := by rw [h38]; rfl
          go_wp2_with fail
          go_region_held3 (fun w' => w'.rangeAt (w.heap.size + 1) 0 (lcells P.lk tv pv ov mv))
            (first
              | (with_reducible exact HRG.out _ HLd.out)
              | (with_reducible exact HRG.out _ (HLa.out _))
              | (with_reducible exact HRG.out _ HL1.out)
              | (with_reducible exact HRG.out _ (HLn.out _ _ HL1.out))
              | (with_reducible exact HRG.out _ (HLs.out _ _ _ hlt1 (HLn.out _ _ HL1.out)))
              | (with_reducible exact HRG.out _ (HLs.out _ _ _ hltr HL1.out)))
            (first
              | (go_at_call 43; (with_reducible refine HPC.out.mono ?_); rintro e w1 ⟨⟨Q, t5, p5, o5, m5, key', rfl, hO1, hq1⟩, hb1, hk1⟩; have HL1 := Lib.hid (HLk.out _ _ hk1 HLd.out); have HO1 := Lib.hid hO1; have HQ1 := Lib.hid hq1; have HK1 := Lib.hid hk1; have hlt1 : w.heap.size + 1 < w1.heap.size := HL1.out.lt; have hs := hO1.store (w1.alloc (.cells Twin.zeroL 28)) w1.heap.size Twin.zeroL rfl (Go.heap_alloc_new _ _); have hl5 : (lcells Q.lk t5 p5 o5 m5).length = 37 := lcells_length (X := Q.lk) hO1.info _ _ _ _; have HB1 := Lib.hid hb1; clear hO1 hq1 hk1 hb1)
              | (go_at_call 43; (with_reducible refine HPC2.out.mono ?_); rintro e w1 ⟨⟨Q, t5, p5, o5, m5, key', rfl, hO1, hq1⟩, hb1, hk1⟩; have HL1 := Lib.hid (HLk.out _ _ hk1 (HLa.out _)); have HO1 := Lib.hid hO1; have HQ1 := Lib.hid hq1; have HK1 := Lib.hid hk1; have HW1 : Hid (w1.heap[wr.heap.size]? = some (.cells Twin.zeroL 28 (0, 0))) := hk1.2 _ _ _ _ (by decide) (by decide) (by decide) (Go.heap_alloc_new wr _); have hs := hO1.store w1 wr.heap.size Twin.zeroL rfl HW1.out; have hl5 : (lcells Q.lk t5 p5 o5 m5).length = 37 := lcells_length (X := Q.lk) hO1.info _ _ _ _; have HB1 := Lib.hid hb1; clear hO1 hq1 hk1 hb1))
          have hr := setRow_new w1 Twin.zeroL 28 (lcells Q.lk t5 p5 o5 m5).toArray
          obtain ⟨W7, hW7⟩ : ∃ W7, (w1.alloc (.cells Twin.zeroL 28)).setRow w1.heap.size (lcells Q.lk t5 p5 o5 m5).toArray = W7 := ⟨_, rfl⟩
          obtain ⟨b11, hb11⟩ : ∃ b11, w1.heap.size = b11 := ⟨_, rfl⟩
          rw [hW7] at hr
          have HL11 : Hid (Lb W7 b11 28 Q.lk t5 p5 o5 m5) := by rw [← hb11]; exact hr.1
          have HO7 : Hid (OL W7 w.heap.size (n + 1) Q t5 p5 o5 m5) := HO1.out.below hr.2.1
          have HLp : Hid (Lb W7 (w.heap.size + 1) 28 P.lk tv pv ov mv) := HL1.out.below hr.2.1
          have HZw : w1.heap[w.heap.size]? = some (.cells Twin.zeroL 28 (0, 0)) := HK1.out.2 _ _ _ _ (by decide) (by decide) (by decide) HZr.out
          have HZ7 : Hid (W7.heap[w.heap.size]? = some (.cells Twin.zeroL 28 (0, 0))) := (hr.2.1.block _ ((Array.getElem?_eq_some_iff.1 HZw).1)).trans HZw
          have HBw : Below w.heap.size w w1 := hB.drew.trans HB1.out
          have HB7 : Hid (Below w.heap.size w W7) := HBw.trans (hr.2.1.mono HBw.size)
          clear hr HZw HBw hs hlt1
          rw [hW7]
          simp only [hb11]
          clear hW7 hb11 HK1 HB1 HL1 HO1
          have HFI : Hid ((s.data.toList.drop frm).findIdx? (fun b => b == 38) = some (i - frm)) := find_some hlt hfi h38 (fun j hj h h' => HNO.out j hj h h')
          have hoff := stepP_off P n last seg.data.toList
          obtain ⟨er, her⟩ : ∃ er, (stepP P n last seg.data.toList).2.2.2 = er := ⟨_, rfl⟩
          obtain ⟨off, hof⟩ : ∃ off, (stepP P n last seg.data.toList).2.2.1 = off := ⟨_, rfl⟩
          rw [her, hof]
          rw [hof] at hoff
          have hsgl : seg.data.toList.length ≤ 1048576 := by simpa using hsz
          have HER := Lib.hid her
          have HOF := Lib.hid hof
          have HQ2 : Hid (er = 0 → Q = (stepP P n last seg.data.toList).1 ∧ key' = (stepP P n last seg.data.toList).2.1) := by rw [← HER.out]; exact HQ1.out
          clear her hof HQ1
          by_cases he : er ≠ 0
          · have HX : Hid (parseS s.data.toList = (Pk.bare, (frm : Int) + off, er)) := by
              rw [HSP.out, parseF_more HFI.out, ← HSEG.out, if_pos (by rw [HER.out]; exact he), HER.out, HOF.out]; rfl
            obtain ⟨w6, hs6, HL6, HO6, HB6⟩ := BAD.out W7 HZ7.out HB7.out
            have he' : (er == 0) = false := by simpa using he
            go_wp2
            refine bodyPost_ret (results_row2 rfl rfl HL6.out Tryd.underlying28 rfl HSB.out) rfl ⟨⟨_, _, _, _, by rw [HX.out]; rfl, by rw [HX.out]; exact HO6.out⟩, HB6.out⟩
          · obtain rfl : er = 0 := by simpa using he
            have hq2 := HQ2.out rfl
            have HS2 : Hid (Stands s (i + 1) (i + 1) (n + 1) key' Q) := by
              refine Or.inl ⟨by omega, Nat.le_refl _, by omega, fun j hj h1 h2 => by omega, f, by omega, ?_⟩
              rw [HSP.out, parseF_more HFI.out, ← HSEG.out, if_neg (by rw [HER.out]; simp), hq2.1, hq2.2, List.drop_drop]
              rw [show frm + (i - frm + 1) = i + 1 by omega, show frm + (i - frm) + 1 = i + 1 by omega]
            have hs8 := HO7.out.store W7 (w.heap.size + 1) _ (by simp [lcells_length (X := P.lk) HO.out.info]) HLp.out
            obtain ⟨W8, hW8⟩ : ∃ W8, W7.setRow (w.heap.size + 1) (lcells Q.lk t5 p5 o5 m5).toArray = W8 := ⟨_, rfl⟩
            rw [hW8] at hs8
            have hg8 : W7.grownBy W8 (some (w.heap.size + 1)) := hW8 ▸ grown_setRow _ _ _
            have HL8 : Hid (Lb W8 (w.heap.size + 1) 28 Q.lk t5 p5 o5 m5) := by rw [← hW8]; exact setRow_heap _ _ _ _ _ _ HLp.out
            have HO8 : Hid (OL W8 w.heap.size (n + 1) Q t5 p5 o5 m5) := HO7.out.turn hg8 HLp.out (by decide) (by decide) (by decide)
            have HZ8 : Hid (W8.heap[w.heap.size]? = some (.cells Twin.zeroL 28 (0, 0))) := (hg8.block _ ((Array.getElem?_eq_some_iff.1 HZ7.out).1) (by simp)).trans HZ7.out
            have HB8 : Hid (Below w.heap.size w W8) := Below.turn HB7.out hg8 (by omega) HB7.out.size
            have HS7 := Lib.hid (sizeLQ (X := Q.lk) HO7.out.info t5 p5 o5 m5)
            clear hq2 hg8 he
            go_wp2_with (refine wpList_load_row rfl 28 _ rfl b11 rfl 28 (lcells Q.lk t5 p5 o5 m5).toArray (0, 0) _ HL11.out Tryd.underlying28 rfl HS7.out ?_)
            exact ⟨⟨i + 1, i + 1, n + 1, key', Q, t5, p5, o5, m5, by omega, by omega, by omega, by go_num, by go_num, by go_num, rfl, HB8.out, HO8, HL8, HZ8, HS2⟩, by simp [intOf]; omega⟩
          obtain ⟨W7, hW7⟩ : ∃ W7, w1.setRow wr.heap.size (lcells Q.lk t5 p5 o5 m5).toArray = W7 := ⟨_, rfl⟩
          obtain ⟨b11, hb11⟩ : ∃ b11, wr.heap.size = b11 := ⟨_, rfl⟩
          have hg7 : w1.grownBy W7 (some wr.heap.size) := hW7 ▸ grown_setRow _ _ _
          have HL11 : Hid (Lb W7 b11 28 Q.lk t5 p5 o5 m5) := by rw [← hb11, ← hW7]; exact setRow_heap _ _ _ _ _ _ HW1.out
          have HO7 : Hid (OL W7 w.heap.size (n + 1) Q t5 p5 o5 m5) := HO1.out.turn hg7 HW1.out (by decide) (by decide) (by decide)
          have HLp : Hid (Lb W7 (w.heap.size + 1) 28 P.lk tv pv ov mv) := (hg7.block _ HL1.out.lt (by simp; omega)).trans HL1.out
          have HZa : (wr.alloc (.cells Twin.zeroL 28)).drew.heap[w.heap.size]? = some (.cells Twin.zeroL 28 (0, 0)) := (Below.heap_alloc wr _ _ (by omega)).trans HZr.out
          have HZw : w1.heap[w.heap.size]? = some (.cells Twin.zeroL 28 (0, 0)) := HK1.out.2 _ _ _ _ (by decide) (by decide) (by decide) HZa
          have HZ7 : Hid (W7.heap[w.heap.size]? = some (.cells Twin.zeroL 28 (0, 0))) := (hg7.block _ ((Array.getElem?_eq_some_iff.1 HZw).1) (by simp; omega)).trans HZw
          have HBw : Below w.heap.size w w1 := (hB.alloc hwr _).drew.trans HB1.out
          have HB7 : Hid (Below w.heap.size w W7) := Below.turn HBw hg7 hwr HBw.size
          clear hg7 HZa HZw HBw hs HW1
          rw [hW7]
          simp only [hb11]
          clear hW7 hb11 HK1 HB1 HL1 HO1
          have HFI : Hid ((s.data.toList.drop frm).findIdx? (fun b => b == 38) = some (i - frm)) := find_some hlt hfi h38 (fun j hj h h' => HNO.out j hj h h')
          have hoff := stepP_off P n last seg.data.toList
          obtain ⟨er, her⟩ : ∃ er, (stepP P n last seg.data.toList).2.2.2 = er := ⟨_, rfl⟩
          obtain ⟨off, hof⟩ : ∃ off, (stepP P n last seg.data.toList).2.2.1 = off := ⟨_, rfl⟩
          rw [her, hof]
          rw [hof] at hoff
          have hsgl : seg.data.toList.length ≤ 1048576 := by simpa using hsz
          have HER := Lib.hid her
          have HOF := Lib.hid hof
          have HQ2 : Hid (er = 0 → Q = (stepP P n last seg.data.toList).1 ∧ key' = (stepP P n last seg.data.toList).2.1) := by rw [← HER.out]; exact HQ1.out
          clear her hof HQ1
          by_cases he : er ≠ 0
          · have HX : Hid (parseS s.data.toList = (Pk.bare, (frm : Int) + off, er)) := by
              rw [HSP.out, parseF_more HFI.out, ← HSEG.out, if_pos (by rw [HER.out]; exact he), HER.out, HOF.out]; rfl
            obtain ⟨w6, hs6, HL6, HO6, HB6⟩ := BAD.out W7 HZ7.out HB7.out
            have he' : (er == 0) = false := by simpa using he
            go_wp2
            refine bodyPost_ret (results_row2 rfl rfl HL6.out Tryd.underlying28 rfl HSB.out) rfl ⟨⟨_, _, _, _, by rw [HX.out]; rfl, by rw [HX.out]; exact HO6.out⟩, HB6.out⟩
          · obtain rfl : er = 0 := by simpa using he
            have hq2 := HQ2.out rfl
            have HS2 : Hid (Stands s (i + 1) (i + 1) (n + 1) key' Q) := by
              refine Or.inl ⟨by omega, Nat.le_refl _, by omega, fun j hj h1 h2 => by omega, f, by omega, ?_⟩
              rw [HSP.out, parseF_more HFI.out, ← HSEG.out, if_neg (by rw [HER.out]; simp), hq2.1, hq2.2, List.drop_drop]
              rw [show frm + (i - frm + 1) = i + 1 by omega, show frm + (i - frm) + 1 = i + 1 by omega]
            have hs8 := HO7.out.store W7 (w.heap.size + 1) _ (by simp [lcells_length (X := P.lk) HO.out.info]) HLp.out
            obtain ⟨W8, hW8⟩ : ∃ W8, W7.setRow (w.heap.size + 1) (lcells Q.lk t5 p5 o5 m5).toArray = W8 := ⟨_, rfl⟩
            rw [hW8] at hs8
            have hg8 : W7.grownBy W8 (some (w.heap.size + 1)) := hW8 ▸ grown_setRow _ _ _
            have HL8 : Hid (Lb W8 (w.heap.size + 1) 28 Q.lk t5 p5 o5 m5) := by rw [← hW8]; exact setRow_heap _ _ _ _ _ _ HLp.out
            have HO8 : Hid (OL W8 w.heap.size (n + 1) Q t5 p5 o5 m5) := HO7.out.turn hg8 HLp.out (by decide) (by decide) (by decide)
            have HZ8 : Hid (W8.heap[w.heap.size]? = some (.cells Twin.zeroL 28 (0, 0))) := (hg8.block _ ((Array.getElem?_eq_some_iff.1 HZ7.out).1) (by simp)).trans HZ7.out
            have HB8 : Hid (Below w.heap.size w W8) := Below.turn HB7.out hg8 (by omega) HB7.out.size
            have HS7 := Lib.hid (sizeLQ (X := Q.lk) HO7.out.info t5 p5 o5 m5)
            clear hq2 hg8 he
            go_wp2_with (refine wpList_load_row rfl 28 _ rfl b11 rfl 28 (lcells Q.lk t5 p5 o5 m5).toArray (0, 0) _ HL11.out Tryd.underlying28 rfl HS7.out ?_)
            exact ⟨⟨i + 1, i + 1, n + 1, key', Q, t5, p5, o5, m5, by omega, by omega, by omega, by go_num, by go_num, by go_num, rfl, HB8.out, HO8, HL8, HZ8, HS2⟩, by simp [intOf]; omega⟩
    · subst hie
      have hil : ¬ ((s.size + 1 : Nat) : Int) ≤ (s.size : Int) := by omega
      have HSP := Lib.hid hsp
      clear hsp HST
      have HS0 := Lib.hid (sizeLQ (X := P.lk) HO.out.info tv pv ov mv)
      have hl0 : (lcells P.lk tv pv ov mv).length = 37 := lcells_length (X := P.lk) HO.out.info _ _ _ _
      have hs6 := HO.out.store wr w.heap.size Twin.zeroL rfl HZr.out
      obtain ⟨w6, hW6⟩ : ∃ w6, wr.setRow w.heap.size (lcells P.lk tv pv ov mv).toArray = w6 := ⟨_, rfl⟩
      have hg6 : wr.grownBy w6 (some w.heap.size) := hW6 ▸ grown_setRow _ _ _
      have HL6 : Hid (w6.heap[w.heap.size]? = some (.cells (lcells P.lk tv pv ov mv).toArray 28 (0, 0))) := by rw [← hW6]; exact setRow_heap _ _ _ _ _ _ HZr.out
      have HO6 : Hid (OL w6 w.heap.size 5000 P tv pv ov mv) := (HO.out.turn hg6 HZr.out (by decide) (by decide) (by decide)).more (by omega)
      have HB6 : Hid (Below w.heap.size w w6) := Below.turn hB hg6 (Nat.le_refl _) hwr
      rw [hW6] at hs6
      clear hg6
      go_wp2_with (refine wpList_load_row rfl 28 _ rfl (w.heap.size + 1) rfl 28 (lcells P.lk tv pv ov mv).toArray (0, 0) _ HL.out Tryd.underlying28 rfl HS0.out ?_)
      refine bodyPost_ret (results_row2 rfl rfl HL6.out Tryd.underlying28 rfl HS0.out) rfl ⟨⟨_, _, _, _, by rw [HSP.out]; rfl, by rw [HSP.out]; exact HO6.out⟩, HB6.out⟩

end Go.Proofs.YtdfiblaboddbjaaDoor.Prs
