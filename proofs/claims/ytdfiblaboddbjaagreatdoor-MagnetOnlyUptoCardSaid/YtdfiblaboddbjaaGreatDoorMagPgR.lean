/-
  The program's runs.
-/
import Derived.Test.YtdfiblaboddbjaaGreatDoorMagPgP
import Derived.Test.YtdfiblaboddbjaaGreatDoorMagPgL
namespace Go.Proofs.YtdfiblaboddbjaaGreatDoor.Prs
open Go.RowKit Go.Proofs.YtdfiblaboddbjaaGreatDoor.Base Go.Proofs.YtdfiblaboddbjaaGreatDoor.Rep Go.Proofs.YtdfiblaboddbjaaGreatDoor.Mag Go.Proofs.YtdfiblaboddbjaaGreatDoor.Has
set_option linter.unusedVariables false
set_option linter.unusedSimpArgs false

/-- Every block below B but b stays, and whatever is no cells. -/
def KeptR (B b : Nat) (w w' : World) : Prop := w.heap.size ≤ w'.heap.size ∧ (∀ q, q < B → q ≠ b → w'.heap[q]? = w.heap[q]?) ∧ ∀ (q : Nat) (o : Obj), w.heap[q]? = some o → (∀ (cs : Array Value) (T : TypeId) (fr : Nat × Nat), o ≠ .cells cs T fr) → w'.heap[q]? = some o
theorem KeptR.refl (B b : Nat) (w : World) : KeptR B b w w := ⟨Nat.le_refl _, fun _ _ _ => rfl, fun _ _ h _ => h⟩
theorem KeptR.trans {B b : Nat} {w w1 w2 : World} (h : KeptR B b w w1) (k : KeptR B b w1 w2) : KeptR B b w w2 := ⟨Nat.le_trans h.1 k.1, fun q x y => (k.2.1 q x y).trans (h.2.1 q x y), fun q o x y => k.2.2 q o (h.2.2 q o x y) y⟩
theorem KeptR.of_below {B b : Nat} {w w' : World} (h : Below w.heap.size w w') (hB : B ≤ w.heap.size) : KeptR B b w w' := ⟨h.size, fun q x _ => h.block q (by omega), fun q o x _ => (h.block q (Array.getElem?_eq_some_iff.1 x).1).trans x⟩
theorem KeptR.set {B b : Nat} {w w' : World} {cs : Array Value} {T : TypeId} {fr : Nat × Nat} (hb : w.heap[b]? = some (Obj.cells cs T fr)) (hBw : B ≤ w.heap.size) (hg : w.grownBy w' (some b)) : KeptR B b w w' :=
  ⟨hg.size, fun q x y => hg.block q (by omega) (fun e => y (by injection e)), fun q o x y => by
    rw [hg.block q (Array.getElem?_eq_some_iff.1 x).1 ?_]
    · exact x
    · intro h
      injection h with h
      subst h
      rw [hb] at x
      injection x with x
      exact y _ _ _ x.symm⟩
theorem KeptR.of_grown {B b : Nat} {w w' : World} {e s n : Nat} {v : Value} {xs : List Value} (ho : w.ownsRow B e s v n xs) (hB : B ≤ w.heap.size) (hg : w.grownBy w' v.ownBlock) : KeptR B b w w' :=
  ⟨hg.size, fun q x _ => hg.block q (by omega) (fun h => by have := (ho.lt q h.symm).1; omega), fun q o x y => by
    rw [hg.block q (Array.getElem?_eq_some_iff.1 x).1 ?_]
    · exact x
    · intro h
      rcases ho.2 with ⟨rfl, _⟩ | ⟨g, cap, cur, rfl, _, hgb, _⟩
      · simp [Value.ownBlock] at h
      · simp only [Value.ownBlock, Option.map_some, Option.some.injEq] at h
        subst h
        rw [x] at hgb
        injection hgb with hgb
        exact y _ _ _ hgb⟩

theorem Rd.set {w : World} {b j : Nat} {P : Pk} {tv pv ov mv : Value} {n : Nat} {last : ByteArray} (h : Rd w b P tv pv ov mv n last) (u : Value) : (w.setCell ⟨b, j, none⟩ u).heap[b]? = some (Obj.cells ((rcells P tv pv ov mv n last).set j u).toArray 60 (0, 0)) := by
  rw [heap_setCell_same w b j _ _ _ h]; simp
theorem Rd.frozen {w : World} {b : Nat} {P : Pk} {tv pv ov mv : Value} {n : Nat} {last : ByteArray} (h : Rd w b P tv pv ov mv n last) (j : Nat) : w.frozen? ⟨b, j, none⟩ = false := Lib.frozen_of_heap h j
theorem rcells_set {P : Pk} (h : P.info.length = 32) (tv pv ov mv : Value) (n : Nat) (last : ByteArray) (j : Nat) (hj : j < 37) (u : Value) : (rcells P tv pv ov mv n last).set j u = (lcells P.lk tv pv ov mv).set j u ++ [.int .i64 (n : Int), .string last] := by
  unfold rcells
  rw [List.set_append_left _ _ (by rw [lcells_length (X := P.lk) h]; exact hj)]
theorem Rd.set35 {w : World} {b : Nat} {P : Pk} {tv pv ov mv : Value} {n : Nat} {last : ByteArray} (h : Rd w b P tv pv ov mv n last) (hi : P.info.length = 32) (u : Value) (l : List (Int × Int)) : Rd (w.setCell ⟨b, 35, none⟩ u) b { P with only := l } tv pv u mv n last := by
  have := h.set (j := 35) u
  rw [rcells_set hi _ _ _ _ _ _ _ (by decide), Twin.lcells_set35 (X := P.lk) hi] at this
  exact this

theorem splitB_size (sep : ByteArray) : ∀ (k : Nat) (s x : ByteArray), x ∈ Lib.splitB sep 0 k s → x.size ≤ s.size
  | 0, s, x, h => by rw [Lib.splitB_zero, List.mem_singleton] at h; rw [h]; omega
  | k + 1, s, x, h => by
    unfold Lib.splitB at h
    split at h
    · rw [List.mem_singleton] at h; rw [h]; omega
    · rcases List.mem_cons.1 h with rfl | h
      · rw [ByteArray.size_extract]; omega
      · have := splitB_size sep k _ x h
        rw [ByteArray.size_extract] at this; omega
theorem segB_len (s : ByteArray) : (segB s).length = Lib.countB s ⟨#[44]⟩ + 1 ∧ (segB s).length ≤ s.size + 1 := by
  have h := Lib.splitB_all ⟨#[44]⟩ (by decide) 0 _ s rfl
  have h2 := Lib.countB_le ⟨#[44]⟩ (by decide) s.size s (Nat.le_refl _)
  unfold segB
  exact ⟨h, by omega⟩
theorem cut_len (l sep : List UInt8) : (Lib.cut l sep).1.length ≤ l.length ∧ (Lib.cut l sep).2.1.length ≤ l.length := by
  unfold Lib.cut
  split
  · simp; omega
  · simp

theorem OL.range {w w1 : World} {B N g cap : Nat} {P : Pk} {tv pv ov mv : Value} {r : Int × Int} {o : Obj} (h : OL w B N P tv pv ov mv) (hl : P.only.length + 1 ≤ 1048576) (hw : 0 ≤ r.1 ∧ r.1 < 4096 ∧ 1 ≤ r.2 ∧ r.2 ≤ 4096 - r.1)
    (hr : w1.ownsRow B 43 2 (.slice (some ⟨g, 0, none⟩) (P.only.length + 1) cap) (P.only.length + 1) (rows2 P.only ++ [.int .i64 r.1, .int .i64 r.2])) (hg : (w.alloc o).grownBy w1 ov.ownBlock) :
    OL w1 B N { P with only := P.only ++ [r] } tv pv (.slice (some ⟨g, 0, none⟩) (P.only.length + 1) cap) mv := by
  have a1 := (h.tr.alloc o).kept hg (own_apart h.tr h.on (by decide))
  have a2 := (h.pe.alloc o).kept hg (own_apart h.pe h.on (by decide))
  have a4 := (h.mo.alloc o).kept hg (own_apart h.mo h.on (by decide))
  refine ⟨h.info, h.name, a1, a2, ?_, a4, h.tp, ⟨h.cnt.1, h.cnt.2.1, h.cnt.2.2.1, by simpa using hl⟩, h.trs, h.pes, h.mos, fun i hi => ?_⟩
  · show w1.ownsRow B _ 2 _ (P.only ++ [r]).length (rows2 (P.only ++ [r]))
    rw [rows2_snoc, List.length_append]; exact hr
  · have hi' : i < (P.only ++ [r]).length := hi
    show 0 ≤ (P.only ++ [r])[i].1 ∧ (P.only ++ [r])[i].1 < 4096 ∧ 1 ≤ (P.only ++ [r])[i].2 ∧ (P.only ++ [r])[i].2 ≤ 4096 - (P.only ++ [r])[i].1
    rcases Nat.lt_or_ge i P.only.length with h1 | h1
    · rw [List.getElem_append_left h1]; exact h.who i h1
    · rw [List.length_append, List.length_singleton] at hi'
      obtain rfl : i = P.only.length := by omega
      rw [List.getElem_append_right h1]
      simpa using hw

theorem pk_only {P : Pk} {l : List (Int × Int)} (h : P.only = l) : ({ P with only := l } : Pk) = P := by cases P; subst h; rfl

/-- What the program's runs hands back. -/
def RunPost (A B N b : Nat) (P : Pk) (tv pv mv : Value) (n : Nat) (last : ByteArray) (R : Option (List (Int × Int))) (w : World) (e : Ending) (w' : World) : Prop :=
  ∃ (l : List (Int × Int)) (ov' : Value), e = .returned (.int .i64 (onlyP P R).2) ∧ Rd w' b { P with only := l } tv pv ov' mv n last ∧ OL w' B N { P with only := l } tv pv ov' mv ∧ ((onlyP P R).2 = 0 → R = some l) ∧ Below A w w' ∧ KeptR B b w w'

set_option maxHeartbeats 8000000 in
set_option maxRecDepth 100000 in
theorem runs (P : Pk) (hP : P.only = []) (tv pv ov mv : Value) (n : Nat) (last value : ByteArray) (B N b : Nat) (w0 w : World) (hG : Ground w0) (hB0 : Below w0.heap.size w0 w) (hAB : w0.heap.size ≤ B) (hBw : B ≤ w.heap.size) (hR : Rd w b P tv pv ov mv n last) (hO : OL w B N P tv pv ov mv) (hb : w0.heap.size ≤ b) (hvs : value.size ≤ 1000000) :
    Calls Tryz.prog 67 #[.pointer (some ⟨b, 0, none⟩), .string value] w (RunPost w0.heap.size B N b P tv pv mv n last (runsS value.data.toList) w) := by
  have hAw := hB0.size
  have hlen := (segB_len value).2
  have hsz := splitB_size ⟨#[44]⟩ (Lib.countB value ⟨#[44]⟩) value
  have hseg := runsS_seg value
  have hcnt := (segB_len value).1
  obtain ⟨Z, hBB⟩ : ∃ Z, w0.heap.size = Z := ⟨_, rfl⟩
  obtain ⟨R, hRR⟩ : ∃ R, runsS value.data.toList = R := ⟨_, rfl⟩
  rw [hRR] at hseg
  rw [hRR]
  have hsz' : ∀ x ∈ segB value, x.size ≤ 1000000 := fun x hx => Nat.le_trans (hsz x hx) hvs
  obtain ⟨m, hm0, hm⟩ := (hG.keep hB0).cut
  have hsplit := Tryz.strings_Split value ⟨#[44]⟩ m w (by omega) hm (by decide)
  have hsplit' : Calls Tryz.prog 77 #[.string value, .string ⟨#[44]⟩] w fun e w' => e = .returned (.slice (some ⟨w.heap.size, 0, none⟩) (segB value).length (segB value).length) ∧ w' = w.alloc (.cells ((segB value).map Value.string).toArray 9) := by rw [hcnt]; exact hsplit
  obtain ⟨S, hS⟩ : ∃ S, segB value = S := ⟨_, rfl⟩
  rw [hS] at hsplit' hseg hsz' hlen
  have hRS : Rd (w.alloc (.cells (S.map Value.string).toArray 9)) b P tv pv ov mv n last := hR.below ((Below.refl _ _).alloc (Nat.le_refl _) _) hR.lt
  have hOS : OL (w.alloc (.cells (S.map Value.string).toArray 9)) B N P tv pv ov mv := hO.below ((Below.refl _ _).alloc (Nat.le_refl _) _)
  have hWS : (w.alloc (.cells (S.map Value.string).toArray 9)).heap[w.heap.size]? = some (.cells (S.map Value.string).toArray 9 (0, 0)) := Go.heap_alloc_new _ _
  have hKS : KeptR B b w (w.alloc (.cells (S.map Value.string).toArray 9)) := KeptR.of_below ((Below.refl _ _).alloc (Nat.le_refl _) _) hBw
  have hBS : Below Z w (w.alloc (.cells (S.map Value.string).toArray 9)) := (Below.refl _ _).alloc (by omega) _
  have hbS : b < w.heap.size := hR.lt
  have hi : P.info.length = 32 := hO.info
  have HSP := Lib.hid hsplit'
  have HG0 : Hid (∀ w', Below Z w w' → Ground w') := fun w' h => hG.keep (hB0.trans (hBB ▸ h))
  have HSEG := Lib.hid hseg
  have HSZ := Lib.hid hsz'
  have HP := Lib.hid hP
  have HI := Lib.hid hi
  obtain ⟨W1, hW1⟩ : ∃ W1, w.alloc (.cells (S.map Value.string).toArray 9) = W1 := ⟨_, rfl⟩
  rw [hW1] at hRS hOS hWS hKS hBS HSP
  have HRS := Lib.hid hRS
  have HOS := Lib.hid hOS
  have HWS := Lib.hid hWS
  have HKS := Lib.hid hKS
  have HBS := Lib.hid hBS
  rw [hBB] at hb hAw hAB ⊢
  clear hRS hOS hWS hKS hBS hW1 hsplit hsplit' hseg hsz' hsz hG hm hm0 hB0 hR hO hi hcnt hRR hP hBB hS
  go_enter Tryz.func67, Tryz.ntmps67
  go_wp2_with fail
  refine HSP.out.mono ?_
  rintro e w1 ⟨rfl, rfl⟩
  clear HSP
  go_wp2_with fail
  go_loopw [16] (fun v16 wr => ∃ (k : Nat) (acc : List (Int × Int)) (ov' : Value), k ≤ S.length ∧ v16 = .int .i64 (k : Int) ∧ acc.length ≤ k ∧ Hid (R = (segsM ((S.drop k).map (fun y : ByteArray => y.data.toList))).map (acc ++ ·)) ∧ Hid (Rd wr b { P with only := acc } tv pv ov' mv n last) ∧ Hid (OL wr B N { P with only := acc } tv pv ov' mv) ∧ Hid (Below Z w wr) ∧ Hid (KeptR B b w wr) ∧ Hid (wr.heap[w.heap.size]? = some (.cells (S.map Value.string).toArray 9 (0, 0)))) (fun v16 _ => S.length - (intOf v16).toNat)
  case atStart =>
    refine ⟨0, [], ov, Nat.zero_le _, rfl, by simp, ?_, ?_, ?_, HBS.out, HKS.out, HWS.out⟩
    · rw [List.drop_zero, ← HSEG.out]; cases R <;> simp [Hid]
    · rw [pk_only HP.out]; exact HRS.out
    · rw [pk_only HP.out]; exact HOS.out
  case round =>
    obtain ⟨k, acc, ov', hk, rfl, hac, HF, HR, HO, HB, HK, HW⟩ := hrel
    have hk0 : (0 : Int) ≤ (k : Int) := by omega
    have hszr := HK.out.1
    have hbr := HR.out.lt
    by_cases hlt : k < S.length
    · have hk1 : (k : Int) < (S.length : Int) := by omega
      obtain ⟨x, hx⟩ : ∃ x, S[k] = x := ⟨_, rfl⟩
      have hxs : x.size ≤ 1000000 := HSZ.out x (by rw [← hx]; exact List.getElem_mem _)
      have hcx : wr.cell? ⟨w.heap.size, k, none⟩ = some (.string x) := by
        rw [Lib.cell_of_heap HW.out]; simp [hlt, hx]
      have hF : R = (match seg1 x.data.toList with | none => none | some r => (segsM ((S.drop (k + 1)).map (fun y : ByteArray => y.data.toList))).map (r :: ·)).map (acc ++ ·) := by
        rw [HF.out, List.drop_eq_getElem_cons hlt, hx]; rfl
      obtain ⟨m, hm0, hm⟩ := (HG0.out wr HB.out).cut
      have hcut := Tryz.strings_Cut x ⟨#[45]⟩ m wr (by omega) hm
      have hcl := cut_len x.data.toList [45]
      obtain ⟨C, hC⟩ : ∃ C, Lib.cut x.data.toList (⟨#[45]⟩ : ByteArray).data.toList = C := ⟨_, rfl⟩
      have hC' : Lib.cut x.data.toList [45] = C := hC
      have hsg : seg1 x.data.toList = match numS C.1 with
          | none => none
          | some f => if C.2.2 = true then (match numS C.2.1 with | none => none | some t => if t ≤ f then none else some ((f : Int), (t : Int) - f + 1)) else some ((f : Int), 1) := by
        unfold seg1; rw [hC']; rfl
      rw [hC] at hcut
      rw [hC'] at hcl
      obtain ⟨c1, c2, tw⟩ := C
      simp only at hcut hcl hsg
      obtain ⟨A, hA⟩ : ∃ A : ByteArray, (⟨c1.toArray⟩ : ByteArray) = A := ⟨_, rfl⟩
      obtain ⟨D, hD⟩ : ∃ D : ByteArray, (⟨c2.toArray⟩ : ByteArray) = D := ⟨_, rfl⟩
      have hxl : x.data.toList.length = x.size := by simp
      have hA1 : A.data.toList = c1 := by rw [← hA]
      have hD1 : D.data.toList = c2 := by rw [← hD]
      have hAs : A.size ≤ 1048576 := by rw [← hA]; show c1.toArray.size ≤ _; rw [List.size_toArray]; omega
      have hDs : D.size ≤ 1048576 := by rw [← hD]; show c2.toArray.size ≤ _; rw [List.size_toArray]; omega
      rw [hA, hD] at hcut
      have HCUT := Lib.hid hcut
      have HFF := Lib.hid hF
      have HSG := Lib.hid hsg
      have HA1 := Lib.hid hA1
      have HD1 := Lib.hid hD1
      clear hcut hF hsg hcl hA hD hA1 hD1 hC hC' hm hm0 hx hxl
      go_wp2_with fail
      refine HCUT.out.mono ?_
      rintro e w1 ⟨rfl, nd, hw1⟩
      have hb1 : Below wr.heap.size wr w1 := by rw [hw1]; exact below_N (Below.refl _ _) nd
      have HB1 : Hid (Below Z w w1) := HB.out.trans (hb1.mono (by omega))
      have hnA := number A w1 hAs (HG0.out w1 HB1.out)
      rw [HA1.out] at hnA
      have HNA := Lib.hid hnA
      have Hb1 := Lib.hid hb1
      clear hnA hw1 hb1 HCUT
      go_wp2_with fail
      refine HNA.out.mono ?_
      rintro e w2 ⟨rfl, hb2⟩
      have hb2' : Below wr.heap.size wr w2 := Hb1.out.trans (hb2.mono Hb1.out.size)
      have HR2 : Hid (Rd w2 b { P with only := acc } tv pv ov' mv n last) := HR.out.below hb2' hbr
      have HO2 : Hid (OL w2 B N { P with only := acc } tv pv ov' mv) := HO.out.below hb2'
      have HW2 : Hid (w2.heap[w.heap.size]? = some (.cells (S.map Value.string).toArray 9 (0, 0))) := (hb2'.block _ (Array.getElem?_eq_some_iff.1 HW.out).1).trans HW.out
      have HB2 : Hid (Below Z w w2) := HB.out.trans (hb2'.mono (by omega))
      have HK2 : Hid (KeptR B b w w2) := HK.out.trans (KeptR.of_below hb2' (by omega))
      clear hb2 hb2' HNA Hb1 HB1 hcx
      cases hf : numS c1 with
      | none =>
        have hE1 : numI c1 = 0 := by unfold numI; rw [hf]
        have hE2 : numB c1 = false := by unfold numB; rw [hf]; rfl
        have HBAD : Hid (R = none) := by rw [HFF.out, HSG.out, hf]; rfl
        rw [hE1, hE2]
        clear hf hE1 hE2
        cases tw with
        | true =>
          have HC : Hid ((onlyP P R).2 = 226) := by rw [HBAD.out]; rfl
          clear HFF HSG
          go_wp2
          go_ret
          exact ⟨acc, ov', by rw [HC.out]; rfl, HR2.out, HO2.out, (fun h => by rw [HC.out] at h; cases h), HB2.out, HK2.out⟩
        | false =>
          have HC : Hid ((onlyP P R).2 = 226) := by rw [HBAD.out]; rfl
          clear HFF HSG
          go_wp2
          go_ret
          exact ⟨acc, ov', by rw [HC.out]; rfl, HR2.out, HO2.out, (fun h => by rw [HC.out] at h; cases h), HB2.out, HK2.out⟩
      | some f =>
        obtain ⟨hf4, _⟩ := numS_some hf
        have hE1 : numI c1 = (f : Int) := by unfold numI; rw [hf]
        have hE2 : numB c1 = true := by unfold numB; rw [hf]; rfl
        rw [hf] at HSG
        rw [hE1, hE2]
        clear hf hE1 hE2
        have hf0 : (0 : Int) ≤ (f : Int) := by omega
        have hf5 : (f : Int) < 4096 := by omega
        cases tw with
        | false =>
          have HGO : Hid (R = (segsM ((S.drop (k + 1)).map (fun y : ByteArray => y.data.toList))).map ((acc ++ [((f : Int), (1 : Int))]) ++ ·)) := by
            rw [HFF.out, HSG.out]
            show Hid (Option.map _ (Option.map _ _) = _)
            cases segsM ((S.drop (k + 1)).map (fun y : ByteArray => y.data.toList)) <;> simp [Hid]
          clear HFF HSG
          have hm1 : acc.length + 1 ≤ maxLen := by unfold maxLen; omega
          have hm2 : (acc.length + 1) * 16 ≤ 140737488355328 := by omega
          have c35 := HR2.out.c35 HI.out
          have hszA := HK2.out.1
          have hbA := HR2.out.lt
          have HON : Hid (w2.ownsRow B 43 2 ov' acc.length (rows2 acc)) := HO2.out.on
          go_wp2_with (at_builtin; refine wpList_appL rfl _ _ 26 rfl B 43 _ 2 16 Twin.infoR rfl (by decide) Tryz.underlying26 _ _ _ rfl (HON.out.alloc _) ⟨w2.heap.size, 0, none⟩ 1 1 [.int .i64 (f : Int), .int .i64 (1 : Int)] rfl rfl (news_block (cs := #[.int .i64 (f : Int), .int .i64 (1 : Int)]) (Go.heap_alloc_new _ _)) (by simp [Value.oneCell']) (by decide) hm1 hm2 (by simp; omega) ?_)
          intro g cap w4 ho4 hgr4 _ _
          have hb4 : Below w2.heap.size w2 (w2.alloc (.cells #[.int .i64 (f : Int), .int .i64 (1 : Int)] 43)) := (Below.refl _ _).alloc (Nat.le_refl _) _
          have HO4 := Lib.hid (HO2.out.range (r := ((f : Int), (1 : Int))) (by show acc.length + 1 ≤ _; omega) (by show 0 ≤ (f : Int) ∧ (f : Int) < 4096 ∧ 1 ≤ (1 : Int) ∧ (1 : Int) ≤ 4096 - (f : Int); omega) ho4 hgr4)
          have hk4 : KeptT w2 w4 := (KeptT.of_below hb4).trans (KeptT.grown (HON.out.alloc _) hgr4 (Or.inr (Or.inl rfl)))
          have hR4 : Rd w4 b { P with only := acc } tv pv ov' mv n last := hk4.2 _ _ _ _ (by decide) (by decide) (by decide) HR2.out
          have HW4 : Hid (w4.heap[w.heap.size]? = some (.cells (S.map Value.string).toArray 9 (0, 0))) := by
            have h1 := (hb4.block _ (Array.getElem?_eq_some_iff.1 HW2.out).1).trans HW2.out
            refine (hgr4.block _ (Array.getElem?_eq_some_iff.1 h1).1 (fun e => ?_)).trans h1
            rcases HON.out.2 with ⟨h, _⟩ | ⟨g', cap', cur', h, _, h2, _⟩
            · rw [h] at e; simp [Value.ownBlock] at e
            · rw [h] at e
              simp only [Value.ownBlock, Option.map_some, Option.some.injEq] at e
              rw [← e, HW2.out] at h2
              injection h2 with h2
              injection h2 with _ h3
              exact absurd h3 (by decide)
          have HB4 : Hid (Below Z w w4) := (HB2.out.alloc (by omega) _).grown hgr4 (by simp; omega) (fun q hq => Nat.le_trans hAB (HON.out.lt q hq).1)
          have HK4 : Hid (KeptR B b w w4) := HK2.out.trans ((KeptR.of_below hb4 (by omega)).trans (KeptR.of_grown (HON.out.alloc _) (by simp; omega) hgr4))
          have HR4 := Lib.hid hR4
          have d35 := hR4.c35 HI.out
          have f35 := hR4.frozen 35
          have hsz4 := HK4.out.1
          clear c35 hb4 hk4 hR4 ho4 hgr4
          obtain ⟨W5, hW5⟩ : ∃ W5, w4.setCell ⟨b, 35, none⟩ (.slice (some ⟨g, 0, none⟩) (acc.length + 1) cap) = W5 := ⟨_, rfl⟩
          have hg5 : w4.grownBy W5 (some b) := hW5 ▸ grown_setCell _ _ _ _
          have HR5 : Hid (Rd W5 b { P with only := acc ++ [((f : Int), (1 : Int))] } tv pv (.slice (some ⟨g, 0, none⟩) (acc.length + 1) cap) mv n last) := hW5 ▸ HR4.out.set35 (P := { P with only := acc }) HI.out _ _
          have HO5 : Hid (OL W5 B N { P with only := acc ++ [((f : Int), (1 : Int))] } tv pv (.slice (some ⟨g, 0, none⟩) (acc.length + 1) cap) mv) := HO4.out.turn hg5 HR4.out (by decide) (by decide) (by decide)
          have HB5 : Hid (Below Z w W5) := Below.turn HB4.out hg5 hb (by omega)
          have HK5 : Hid (KeptR B b w W5) := HK4.out.trans (KeptR.set HR4.out (by omega) hg5)
          have HW5 : Hid (W5.heap[w.heap.size]? = some (.cells (S.map Value.string).toArray 9 (0, 0))) := (hg5.block _ (Array.getElem?_eq_some_iff.1 HW4.out).1 (fun e => by injection e with e; omega)).trans HW4.out
          clear hg5
          go_wp2
          exact ⟨⟨k + 1, acc ++ [((f : Int), (1 : Int))], _, by omega, by go_num, by simp; omega, HGO, HR5, HO5, HB5, HK5, HW5⟩, by simp [intOf]; omega⟩
        | true =>
          have hnD := number D w2 hDs (HG0.out w2 HB2.out)
          rw [HD1.out] at hnD
          have HND := Lib.hid hnD
          clear hnD
          have hbr2 := HR2.out.lt
          have hsz2 := HK2.out.1
          go_wp2_with fail
          refine HND.out.mono ?_
          rintro e w3 ⟨rfl, hb3⟩
          have HR3 : Hid (Rd w3 b { P with only := acc } tv pv ov' mv n last) := HR2.out.below hb3 hbr2
          have HO3 : Hid (OL w3 B N { P with only := acc } tv pv ov' mv) := HO2.out.below hb3
          have HW3 : Hid (w3.heap[w.heap.size]? = some (.cells (S.map Value.string).toArray 9 (0, 0))) := (hb3.block _ (Array.getElem?_eq_some_iff.1 HW2.out).1).trans HW2.out
          have HB3 : Hid (Below Z w w3) := HB2.out.trans (hb3.mono (by omega))
          have HK3 : Hid (KeptR B b w w3) := HK2.out.trans (KeptR.of_below hb3 (by omega))
          clear hb3 HND HR2 HO2 HW2 HB2 HK2
          cases ht : numS c2 with
          | none =>
            have hE1 : numI c2 = 0 := by unfold numI; rw [ht]
            have hE2 : numB c2 = false := by unfold numB; rw [ht]; rfl
            have HBAD : Hid (R = none) := by rw [HFF.out, HSG.out, ht]; rfl
            rw [hE1, hE2]
            clear ht hE1 hE2
            have HC : Hid ((onlyP P R).2 = 226) := by rw [HBAD.out]; rfl
            clear HFF HSG
            go_wp2
            go_ret
            exact ⟨acc, ov', by rw [HC.out]; rfl, HR3.out, HO3.out, (fun h => by rw [HC.out] at h; cases h), HB3.out, HK3.out⟩
          | some t =>
            obtain ⟨ht4, _⟩ := numS_some ht
            have hE1 : numI c2 = (t : Int) := by unfold numI; rw [ht]
            have hE2 : numB c2 = true := by unfold numB; rw [ht]; rfl
            rw [ht] at HSG
            rw [hE1, hE2]
            clear ht hE1 hE2
            by_cases hle : t ≤ f
            · have hle' : (t : Int) ≤ (f : Int) := by omega
              have hle2 : ¬ (f : Int) < (t : Int) := by omega
              have hle3 : ¬ f < t := by omega
              have HBAD : Hid (R = none) := by
                rw [HFF.out, HSG.out]
                show Hid (Option.map _ (match (if t ≤ f then none else some ((f : Int), (t : Int) - f + 1)) with | none => none | some r => _) = _)
                rw [if_pos hle]; rfl
              have HC : Hid ((onlyP P R).2 = 226) := by rw [HBAD.out]; rfl
              clear HFF HSG
              go_wp2
              go_ret
              exact ⟨acc, ov', by rw [HC.out]; rfl, HR3.out, HO3.out, (fun h => by rw [HC.out] at h; cases h), HB3.out, HK3.out⟩
            · have hle' : ¬ (t : Int) ≤ (f : Int) := by omega
              have hle2 : (f : Int) < (t : Int) := by omega
              have hle3 : f < t := by omega
              have HGO : Hid (R = (segsM ((S.drop (k + 1)).map (fun y : ByteArray => y.data.toList))).map ((acc ++ [((f : Int), (t : Int) - f + 1)]) ++ ·)) := by
                rw [HFF.out, HSG.out]
                show Hid (Option.map _ (match (if t ≤ f then none else some ((f : Int), (t : Int) - f + 1)) with | none => none | some r => _) = _)
                rw [if_neg hle]
                show Hid (Option.map _ (Option.map _ _) = _)
                cases segsM ((S.drop (k + 1)).map (fun y : ByteArray => y.data.toList)) <;> simp [Hid]
              clear HFF HSG hle
              have hm1 : acc.length + 1 ≤ maxLen := by unfold maxLen; omega
              have hm2 : (acc.length + 1) * 16 ≤ 140737488355328 := by omega
              have c35 := HR3.out.c35 HI.out
              have hszA := HK3.out.1
              have hbA := HR3.out.lt
              have HON : Hid (w3.ownsRow B 43 2 ov' acc.length (rows2 acc)) := HO3.out.on
              go_wp2_with (at_builtin; refine wpList_appL rfl _ _ 26 rfl B 43 _ 2 16 Twin.infoR rfl (by decide) Tryz.underlying26 _ _ _ rfl (HON.out.alloc _) ⟨w3.heap.size, 0, none⟩ 1 1 [.int .i64 (f : Int), .int .i64 ((t : Int) - f + 1)] rfl rfl (news_block (cs := #[.int .i64 (f : Int), .int .i64 ((t : Int) - f + 1)]) (Go.heap_alloc_new _ _)) (by simp [Value.oneCell']) (by decide) hm1 hm2 (by simp; omega) ?_)
              intro g cap w4 ho4 hgr4 _ _
              have hb4 : Below w3.heap.size w3 (w3.alloc (.cells #[.int .i64 (f : Int), .int .i64 ((t : Int) - f + 1)] 43)) := (Below.refl _ _).alloc (Nat.le_refl _) _
              have HO4 := Lib.hid (HO3.out.range (r := ((f : Int), ((t : Int) - f + 1))) (by show acc.length + 1 ≤ _; omega) (by show 0 ≤ (f : Int) ∧ (f : Int) < 4096 ∧ 1 ≤ ((t : Int) - f + 1) ∧ ((t : Int) - f + 1) ≤ 4096 - (f : Int); omega) ho4 hgr4)
              have hk4 : KeptT w3 w4 := (KeptT.of_below hb4).trans (KeptT.grown (HON.out.alloc _) hgr4 (Or.inr (Or.inl rfl)))
              have hR4 : Rd w4 b { P with only := acc } tv pv ov' mv n last := hk4.2 _ _ _ _ (by decide) (by decide) (by decide) HR3.out
              have HW4 : Hid (w4.heap[w.heap.size]? = some (.cells (S.map Value.string).toArray 9 (0, 0))) := by
                have h1 := (hb4.block _ (Array.getElem?_eq_some_iff.1 HW3.out).1).trans HW3.out
                refine (hgr4.block _ (Array.getElem?_eq_some_iff.1 h1).1 (fun e => ?_)).trans h1
                rcases HON.out.2 with ⟨h, _⟩ | ⟨g', cap', cur', h, _, h2, _⟩
                · rw [h] at e; simp [Value.ownBlock] at e
                · rw [h] at e
                  simp only [Value.ownBlock, Option.map_some, Option.some.injEq] at e
                  rw [← e, HW3.out] at h2
                  injection h2 with h2
                  injection h2 with _ h3
                  exact absurd h3 (by decide)
              have HB4 : Hid (Below Z w w4) := (HB3.out.alloc (by omega) _).grown hgr4 (by simp; omega) (fun q hq => Nat.le_trans hAB (HON.out.lt q hq).1)
              have HK4 : Hid (KeptR B b w w4) := HK3.out.trans ((KeptR.of_below hb4 (by omega)).trans (KeptR.of_grown (HON.out.alloc _) (by simp; omega) hgr4))
              have HR4 := Lib.hid hR4
              have d35 := hR4.c35 HI.out
              have f35 := hR4.frozen 35
              have hsz4 := HK4.out.1
              clear c35 hb4 hk4 hR4 ho4 hgr4
              obtain ⟨W5, hW5⟩ : ∃ W5, w4.setCell ⟨b, 35, none⟩ (.slice (some ⟨g, 0, none⟩) (acc.length + 1) cap) = W5 := ⟨_, rfl⟩
              have hg5 : w4.grownBy W5 (some b) := hW5 ▸ grown_setCell _ _ _ _
              have HR5 : Hid (Rd W5 b { P with only := acc ++ [((f : Int), ((t : Int) - f + 1))] } tv pv (.slice (some ⟨g, 0, none⟩) (acc.length + 1) cap) mv n last) := hW5 ▸ HR4.out.set35 (P := { P with only := acc }) HI.out _ _
              have HO5 : Hid (OL W5 B N { P with only := acc ++ [((f : Int), ((t : Int) - f + 1))] } tv pv (.slice (some ⟨g, 0, none⟩) (acc.length + 1) cap) mv) := HO4.out.turn hg5 HR4.out (by decide) (by decide) (by decide)
              have HB5 : Hid (Below Z w W5) := Below.turn HB4.out hg5 hb (by omega)
              have HK5 : Hid (KeptR B b w W5) := HK4.out.trans (KeptR.set HR4.out (by omega) hg5)
              have HW5 : Hid (W5.heap[w.heap.size]? = some (.cells (S.map Value.string).toArray 9 (0, 0))) := (hg5.block _ (Array.getElem?_eq_some_iff.1 HW4.out).1 (fun e => by injection e with e; omega)).trans HW4.out
              clear hg5
              go_wp2
              exact ⟨⟨k + 1, acc ++ [((f : Int), ((t : Int) - f + 1))], _, by omega, by go_num, by simp; omega, HGO, HR5, HO5, HB5, HK5, HW5⟩, by simp [intOf]; omega⟩
    · obtain rfl : k = S.length := by omega
      have hF : R = some acc := by
        rw [HF.out, List.drop_of_length_le (Nat.le_refl _)]
        first | done | simp [segsM]
      subst hF
      have c35 := HR.out.c35 HI.out
      have HRR := Lib.hid (rr_of_own HO.out.on HO.out.cnt.2.2.2 HO.out.who)
      have HWH := Lib.hid HO.out.who
      clear HF HSEG
      go_wp2_with fail
      refine (apart _ acc ov' wr HRR.out HWH.out).mono ?_
      rintro e w2 ⟨rfl, hb2⟩
      have HR2 : Hid (Rd w2 b { P with only := acc } tv pv ov' mv n last) := HR.out.below hb2 hbr
      have HO2 : Hid (OL w2 B N { P with only := acc } tv pv ov' mv) := HO.out.below hb2
      have HB2 : Hid (Below Z w w2) := HB.out.trans (hb2.mono (by omega))
      have HK2 : Hid (KeptR B b w w2) := HK.out.trans (KeptR.of_below hb2 (by omega))
      clear hb2
      cases hap : T (apartP acc) with
      | false =>
        have HC : Hid ((onlyP P (some acc)).2 = 227) := by simp [onlyP, hap, Hid]
        clear hap
        go_wp2
        go_ret
        exact ⟨acc, ov', by rw [HC.out]; rfl, HR2.out, HO2.out, fun _ => rfl, HB2.out, HK2.out⟩
      | true =>
        have HC : Hid ((onlyP P (some acc)).2 = 0) := by simp [onlyP, hap, Hid]
        clear hap
        go_wp2
        go_ret
        exact ⟨acc, ov', by rw [HC.out]; rfl, HR2.out, HO2.out, fun _ => rfl, HB2.out, HK2.out⟩

end Go.Proofs.YtdfiblaboddbjaaGreatDoor.Prs
