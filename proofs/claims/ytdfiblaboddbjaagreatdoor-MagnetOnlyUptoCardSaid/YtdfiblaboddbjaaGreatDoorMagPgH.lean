/-
  The program's hold.
-/
import Derived.Test.YtdfiblaboddbjaaGreatDoorMagPgR
import Derived.Laws.CopyOwn
import Derived.Deep.RegionHeld3
import Derived.Deep.MidRow
namespace Go.Proofs.YtdfiblaboddbjaaGreatDoor.Prs
open Go.RowKit Go.Proofs.YtdfiblaboddbjaaGreatDoor.Base Go.Proofs.YtdfiblaboddbjaaGreatDoor.Rep Go.Proofs.YtdfiblaboddbjaaGreatDoor.Mag Go.Proofs.YtdfiblaboddbjaaGreatDoor.Has
set_option linter.unusedVariables false
set_option linter.unusedSimpArgs false

theorem keyb (key : ByteArray) : ((key.toList == [120, 116]) = decide (kindI key = 0)) ∧ ((key.toList == [100, 110]) = decide (kindI key = 1)) ∧ ((key.toList == [115, 111]) = decide (kindI key = 2)) ∧ ((key.toList == [116, 114]) = decide (kindI key = 3)) ∧ ((key.toList == [120, 46, 112, 101]) = decide (kindI key = 4)) := by
  have h0 : (key.toList == [120, 116]) = decide (key = ⟨#[120, 116]⟩) := by rw [← str_beq, Lib.toList_data ⟨#[120, 116]⟩]
  have h1 : (key.toList == [100, 110]) = decide (key = ⟨#[100, 110]⟩) := by rw [← str_beq, Lib.toList_data ⟨#[100, 110]⟩]
  have h2 : (key.toList == [115, 111]) = decide (key = ⟨#[115, 111]⟩) := by rw [← str_beq, Lib.toList_data ⟨#[115, 111]⟩]
  have h3 : (key.toList == [116, 114]) = decide (key = ⟨#[116, 114]⟩) := by rw [← str_beq, Lib.toList_data ⟨#[116, 114]⟩]
  have h4 : (key.toList == [120, 46, 112, 101]) = decide (key = ⟨#[120, 46, 112, 101]⟩) := by rw [← str_beq, Lib.toList_data ⟨#[120, 46, 112, 101]⟩]
  exact ⟨h0.trans (decide_eq_decide.2 (kind0 key).symm), h1.trans (decide_eq_decide.2 (kind1 key).symm), h2.trans (decide_eq_decide.2 (kind2 key).symm), h3.trans (decide_eq_decide.2 (kind3 key).symm), h4.trans (decide_eq_decide.2 (kind4 key).symm)⟩

theorem Rd.set32 {w : World} {b : Nat} {P : Pk} {tv pv ov mv : Value} {n : Nat} {last : ByteArray} (h : Rd w b P tv pv ov mv n last) (hi : P.info.length = 32) (s : ByteArray) : Rd (w.setCell ⟨b, 32, none⟩ (.string s)) b { P with name := s } tv pv ov mv n last := by
  have := h.set (j := 32) (.string s)
  rw [rcells_set hi _ _ _ _ _ _ _ (by decide), lcells_set32 (X := P.lk) hi] at this
  exact this
theorem Rd.set33 {w : World} {b : Nat} {P : Pk} {tv pv ov mv : Value} {n : Nat} {last : ByteArray} (h : Rd w b P tv pv ov mv n last) (hi : P.info.length = 32) (u : Value) (l : List ByteArray) : Rd (w.setCell ⟨b, 33, none⟩ u) b { P with trackers := l } u pv ov mv n last := by
  have := h.set (j := 33) u
  rw [rcells_set hi _ _ _ _ _ _ _ (by decide), Twin.lcells_set33 (X := P.lk) hi] at this
  exact this
theorem Rd.set34 {w : World} {b : Nat} {P : Pk} {tv pv ov mv : Value} {n : Nat} {last : ByteArray} (h : Rd w b P tv pv ov mv n last) (hi : P.info.length = 32) (u : Value) (l : List ByteArray) : Rd (w.setCell ⟨b, 34, none⟩ u) b { P with peers := l } tv u ov mv n last := by
  have := h.set (j := 34) u
  rw [rcells_set hi _ _ _ _ _ _ _ (by decide), Twin.lcells_set34 (X := P.lk) hi] at this
  exact this
theorem Rd.set36 {w : World} {b : Nat} {P : Pk} {tv pv ov mv : Value} {n : Nat} {last : ByteArray} (h : Rd w b P tv pv ov mv n last) (hi : P.info.length = 32) (u : Value) (l : List (ByteArray × ByteArray)) : Rd (w.setCell ⟨b, 36, none⟩ u) b { P with more := l } tv pv ov u n last := by
  have := h.set (j := 36) u
  rw [rcells_set hi _ _ _ _ _ _ _ (by decide), lcells_set36 (X := P.lk) hi] at this
  exact this
theorem Rd.c32 {w : World} {b : Nat} {P : Pk} {tv pv ov mv : Value} {n : Nat} {last : ByteArray} (h : Rd w b P tv pv ov mv n last) (hi : P.info.length = 32) : w.cell? ⟨b, 32, none⟩ = some (.string P.name) := by rw [h.old hi _ (by decide)]; exact lcells_32 (X := P.lk) hi _ _ _ _
theorem Rd.setInfo {w : World} {b : Nat} {P : Pk} {tv pv ov mv : Value} {n : Nat} {last : ByteArray} (h : Rd w b P tv pv ov mv n last) (hi : P.info.length = 32) (l : List UInt8) (hl : l.length = 32) : Rd (w.setRow b ((rcells P tv pv ov mv n last).toArray.toList.take 0 ++ (Lib.byteCells l ++ (rcells P tv pv ov mv n last).toArray.toList.drop (0 + (Lib.byteCells l).length))).toArray) b { P with info := l } tv pv ov mv n last := by
  have h1 := setRow_heap w b (rcells P tv pv ov mv n last).toArray ((rcells P tv pv ov mv n last).toArray.toList.take 0 ++ (Lib.byteCells l ++ (rcells P tv pv ov mv n last).toArray.toList.drop (0 + (Lib.byteCells l).length))).toArray _ _ h
  refine h1.trans ?_
  congr 2
  have e : (rcells P tv pv ov mv n last).drop 32 = (lcells P.lk tv pv ov mv).drop 32 ++ [.int .i64 (n : Int), .string last] := by
    unfold rcells
    rw [List.drop_append_of_le_length (by rw [lcells_length (X := P.lk) hi]; decide)]
  have e2 := info_part (X := P.lk) hi tv pv ov mv l hl
  rw [Lib.byteCells_length, hl]
  simp only [List.take_zero, List.nil_append, Nat.zero_add, e]
  rw [← List.append_assoc]
  show _ = (rcells { P with info := l } tv pv ov mv n last).toArray
  unfold rcells
  congr 2

theorem byteCells_one (l : List UInt8) : ∀ v ∈ Lib.byteCells l, v.oneCell' = true := by
  intro v hv
  simp only [Lib.byteCells, List.mem_map] at hv
  obtain ⟨b, _, rfl⟩ := hv
  rfl
theorem own_cells {w : World} {B e n : Nat} {xs : List Value} {v : Value} (h : w.ownsRow B e 1 v n xs) (hn : 0 < n) : ∃ g c, v = .slice (some ⟨g, 0, none⟩) n c ∧ B ≤ g ∧ g < w.heap.size ∧ ∀ j u, xs[j]? = some u → w.cell? ⟨g, j, none⟩ = some u := by
  obtain ⟨h1, h2⟩ := h
  rcases h2 with ⟨rfl, rfl⟩ | ⟨g, cap, cur, rfl, hB, hg, h3, h4, h5, h6⟩
  · omega
  · refine ⟨g, cap, rfl, hB, (Array.getElem?_eq_some_iff.1 hg).1, fun j u hu => ?_⟩
    rw [Lib.cell_of_heap hg]
    have := h6
    rw [← Array.getElem?_toList]
    have hj : j < xs.length := (List.getElem?_eq_some_iff.1 hu).1
    have e : cur.toList.take xs.length = xs := by
      first
        | exact h6
        | simpa using h6
        | (rw [h1]; simpa using h6)
    rw [← e, List.getElem?_take_of_lt hj] at hu
    exact hu

theorem firstH_cases (v : List UInt8) : (newHash.isPrefixOf v = false → firstH v = none) ∧ (newHash.isPrefixOf v = true → (unhexL (v.drop 13) = none → firstH v = none) ∧ ∀ l, unhexL (v.drop 13) = some l → (l.length ≠ 32 → firstH v = none) ∧ (l.length = 32 → firstH v = some l)) := by
  refine ⟨fun h => ?_, fun h => ⟨fun h2 => ?_, fun l h2 => ⟨fun h3 => ?_, fun h3 => ?_⟩⟩⟩
  · unfold firstH; rw [if_neg]; rintro ⟨_, h'⟩; rw [h] at h'; cases h'
  · unfold firstH
    split
    · exact h2
    · rfl
  · unfold firstH
    rw [if_neg]
    rintro ⟨h', _⟩
    have := unhex_len _ _ h2
    simp at this; omega
  · have := unhex_len _ _ h2
    have hp : newHash.length ≤ v.length := (List.isPrefixOf_iff_prefix.1 h).length_le
    have hp' : newHash.length = 13 := rfl
    unfold firstH
    rw [if_pos ⟨by simp at this; omega, h⟩, h2]

/-- What the program's hold hands back. -/
def HoldPost (A B N b : Nat) (P : Pk) (n : Nat) (last key value : ByteArray) (w : World) (e : Ending) (w' : World) : Prop :=
  ∃ (Q : Pk) (tv' pv' ov' mv' : Value), e = .returned (.int .i64 (holdP P key value).2) ∧ Rd w' b Q tv' pv' ov' mv' n last ∧ OL w' B (N + 1) Q tv' pv' ov' mv' ∧ ((holdP P key value).2 = 0 → Q = (holdP P key value).1) ∧ Below A w w' ∧ KeptR B b w w'

set_option maxHeartbeats 8000000 in
set_option maxRecDepth 100000 in
theorem hold0 (P : Pk) (tv pv ov mv : Value) (n : Nat) (last key value : ByteArray) (B N b : Nat) (w0 w : World) (hG : Ground w0) (hB0 : Below w0.heap.size w0 w) (hAB : w0.heap.size ≤ B) (hBw : B ≤ w.heap.size) (hR : Rd w b P tv pv ov mv n last) (hO : OL w B N P tv pv ov mv) (hb : w0.heap.size ≤ b) (hN : N ≤ 100000) (hks : key.size ≤ 1000000) (hvs : value.size ≤ 1000000) (hk : kindI key = 0) :
    Calls Tryz.prog 46 #[.pointer (some ⟨b, 0, none⟩), .string key, .string value] w (HoldPost w0.heap.size B N b P n last key value w) := by
  have hAw := hB0.size
  have hi : P.info.length = 32 := hO.info
  have hblt := hR.lt
  obtain ⟨e0, e1, e2, e3, e4⟩ := keyb key
  rw [hk] at e0 e1 e2 e3 e4
  replace e0 := e0.trans (show _ = true by decide)
  replace e1 := e1.trans (show _ = false by decide)
  replace e2 := e2.trans (show _ = false by decide)
  replace e3 := e3.trans (show _ = false by decide)
  replace e4 := e4.trans (show _ = false by decide)
  have hsb : (value.toList == []) = decide (value = ⟨#[]⟩) := by rw [← str_beq, Lib.toList_data ⟨#[]⟩]
  have hsb' := isEmpty_str value
  obtain ⟨A, hBB⟩ : ∃ A, w0.heap.size = A := ⟨_, rfl⟩
  have HB0 : Hid (Below A w0 w) := by rw [← hBB]; exact hB0
  have HG := Lib.hid hG
  have HR := Lib.hid hR
  have HO : Hid (OL w B N P tv pv ov mv) := hO
  have HI := Lib.hid hi
  have HKI := Lib.hid hk
  have HH : Hid (holdP P key value = infoP P (firstH value.data.toList)) := by
    refine Lib.hid ?_
    unfold holdP
    simp only [hk]
    simp only [if_true]; cases firstH value.data.toList <;> rfl
  rw [hBB] at hb hAw hAB ⊢
  clear hB0 hG hR hO hi hk
  go_enter Tryz.func46, Tryz.ntmps46
  have hfc := firstH_cases value.data.toList
  have HFC := Lib.hid hfc
  clear hfc
  have hcp := Tryz.strings_CutPrefix value ⟨#[117, 114, 110, 58, 98, 116, 109, 104, 58, 49, 50, 50, 48]⟩ w
  obtain ⟨pb, hpb⟩ : ∃ pb, Lib.hasPrefix value.data.toList (⟨#[117, 114, 110, 58, 98, 116, 109, 104, 58, 49, 50, 50, 48]⟩ : ByteArray).data.toList = pb := ⟨_, rfl⟩
  have hpb' : newHash.isPrefixOf value.data.toList = pb := hpb
  obtain ⟨X, hX⟩ : ∃ X : ByteArray, (⟨(Lib.trimPrefix value.data.toList (⟨#[117, 114, 110, 58, 98, 116, 109, 104, 58, 49, 50, 50, 48]⟩ : ByteArray).data.toList).toArray⟩ : ByteArray) = X := ⟨_, rfl⟩
  rw [hpb, hX] at hcp
  have hXd : pb = true → X.data.toList = value.data.toList.drop 13 := fun h => by
    rw [← hX]; unfold Lib.trimPrefix; rw [hpb, if_pos h]; rfl
  have hXs : X.size ≤ 1048576 := by
    rw [← hX]
    show (Lib.trimPrefix _ _).toArray.size ≤ _
    rw [List.size_toArray]
    unfold Lib.trimPrefix
    have : value.data.toList.length = value.size := by simp
    split
    · rw [List.length_drop]; omega
    · omega
  rw [hpb'] at HFC
  have HXD := Lib.hid hXd
  have HCP := Lib.hid hcp
  clear hcp hpb hpb' hX hXd
  have bad : firstH value.data.toList = none → Hid ((holdP P key value).2 = 223) := fun h => by rw [HH.out, h]; exact Lib.hid rfl
  have BAD := Lib.hid bad
  clear bad
  generalize decide (value = ⟨#[]⟩) = vb at hsb hsb'
  cases vb
  all_goals
    go_wp2_with fail
    refine HCP.out.mono ?_
    rintro e w1 ⟨rfl, rfl⟩
    go_wp2_with fail
    refine (unhex X w1 hXs).mono ?_
    rintro e w2 ⟨⟨v, rfl, hv0, hv1⟩, hb2⟩
    have HR2 : Hid (Rd w2 b P tv pv ov mv n last) := HR.out.below hb2 hblt
    have HO2 : Hid (OL w2 B N P tv pv ov mv) := HO.out.below hb2
    have HB2 : Hid (Below A w1 w2) := hb2.mono hAw
    have HK2 : Hid (KeptR B b w1 w2) := KeptR.of_below hb2 hBw
    have hsz2 := hb2.size
    clear hb2
    cases pb with
    | false =>
      have HC := BAD.out (HFC.out.1 rfl)
      obtain ⟨U, hU⟩ : ∃ U, hexE (unhexL X.data.toList) = U := ⟨_, rfl⟩
      rw [hU]
      clear hU hv0 hv1
      go_wp2
      go_ret
      exact ⟨P, tv, pv, ov, mv, by rw [HC.out]; rfl, HR2.out, HO2.out.more (Nat.le_succ N), (fun h => by rw [HC.out] at h; cases h), HB2.out, HK2.out⟩
    | true =>
      have hXe := HXD.out rfl
      cases hU : unhexL X.data.toList with
      | none =>
        have HC := BAD.out ((HFC.out.2 rfl).1 (by rw [← hXe]; exact hU))
        have hE : hexE none = 13 := rfl
        rw [hE]
        clear hU hv0 hv1
        go_wp2
        go_ret
        exact ⟨P, tv, pv, ov, mv, by rw [HC.out]; rfl, HR2.out, HO2.out.more (Nat.le_succ N), (fun h => by rw [HC.out] at h; cases h), HB2.out, HK2.out⟩
      | some l =>
        have hE : hexE (some l) = 0 := rfl
        rw [hE]
        have hfl := (HFC.out.2 rfl).2 l (by rw [← hXe]; exact hU)
        have hown := hv1 l hU
        clear hv0 hv1 hU hXe
        obtain ⟨va, vc, rfl, _⟩ := own_slice hown
        by_cases h32 : l.length = 32
        · have HFL := Lib.hid (hfl.2 h32)
          have h32' : ((l.length : Int) == 32) = true := by simp; omega
          obtain ⟨g, c, hvv, hgB, hglt, hcells⟩ := own_cells hown (by omega)
          injection hvv with hva _ hvc
          subst hva hvc
          have HCL := Lib.hid hcells
          have HHS : Hid (holdP P key value = (({ P with info := l } : Pk), 0)) := by rw [HH.out, HFL.out]; exact Lib.hid rfl
          clear hown hcells hfl
          have hrl := rcells_length HI.out tv pv ov mv n last
          have HR4 := Lib.hid (HR2.out.setInfo HI.out l h32)
          obtain ⟨W1, hW1⟩ : ∃ W1, w2.setRow b ((rcells P tv pv ov mv n last).toArray.toList.take 0 ++ (Lib.byteCells l ++ (rcells P tv pv ov mv n last).toArray.toList.drop (0 + (Lib.byteCells l).length))).toArray = W1 := ⟨_, rfl⟩
          rw [hW1] at HR4
          have hg1 : w2.grownBy W1 (some b) := hW1 ▸ grown_setRow _ _ _
          have ho1 := HO2.out.turn hg1 HR2.out (by decide) (by decide) (by decide)
          have HO1 : Hid (OL W1 B (N + 1) { P with info := l } tv pv ov mv) :=
            ⟨h32, ho1.name, ho1.tr, ho1.pe, ho1.on, ho1.mo, ho1.tp, (ho1.more (Nat.le_succ N)).cnt, ho1.trs, ho1.pes, ho1.mos, ho1.who⟩
          have HB1 : Hid (Below A w1 W1) := Below.turn HB2.out hg1 hb (by omega)
          have HK1 : Hid (KeptR B b w1 W1) := HK2.out.trans (KeptR.set HR2.out (by omega) hg1)
          have HW1 := Lib.hid hW1
          clear hg1 ho1 hW1
          have HSRC : Hid (∀ j v, (Lib.byteCells l)[j]? = some v → w2.cell? ((⟨g, 0, none⟩ : Addr).add j) = some v) := fun j v hv => by
            have e : (⟨g, 0, none⟩ : Addr).add j = ⟨g, j, none⟩ := by unfold Addr.add; split <;> simp_all
            rw [e]
            exact HCL.out j v hv
          have HLN : Hid ((Lib.byteCells l).length = 32) := by rw [Lib.byteCells_length, h32]; exact Lib.hid rfl
          have hcopy : (Builtin.copy_ #[41, 41] 3 #[.slice (some ⟨b, 0, none⟩) 32 32, .slice (some ⟨g, 0, none⟩) 32 vc]).run Tryz.prog w2 = .ok (goInt 32) W1 := by
            have := run_copy_row (P := Tryz.prog) w2 41 41 3 5 b 0 32 32 ⟨g, 0, none⟩ 32 vc (rcells P tv pv ov mv n last).toArray 60 (Lib.byteCells l) Tryz.underlying41 rfl HR2.out (by rw [HLN.out]; rfl) HSRC.out (by rw [HLN.out, List.size_toArray, hrl]; omega) (byteCells_one l)
            rw [List.append_assoc, HW1.out, HLN.out] at this
            exact this
          go_wp2
          go_ret
          exact ⟨_, _, _, _, _, by rw [HHS.out]; rfl, HR4.out, HO1.out, fun _ => by rw [HHS.out], HB1.out, HK1.out⟩
        · have HC := BAD.out (hfl.1 h32)
          have h32' : ((l.length : Int) == 32) = false := by simp; omega
          clear hown hfl
          go_wp2
          go_ret
          exact ⟨P, tv, pv, ov, mv, by rw [HC.out]; rfl, HR2.out, HO2.out.more (Nat.le_succ N), (fun h => by rw [HC.out] at h; cases h), HB2.out, HK2.out⟩


set_option maxHeartbeats 8000000 in
set_option maxRecDepth 100000 in
theorem hold1 (P : Pk) (tv pv ov mv : Value) (n : Nat) (last key value : ByteArray) (B N b : Nat) (w0 w : World) (hG : Ground w0) (hB0 : Below w0.heap.size w0 w) (hAB : w0.heap.size ≤ B) (hBw : B ≤ w.heap.size) (hR : Rd w b P tv pv ov mv n last) (hO : OL w B N P tv pv ov mv) (hb : w0.heap.size ≤ b) (hN : N ≤ 100000) (hks : key.size ≤ 1000000) (hvs : value.size ≤ 1000000) (hk : kindI key = 1) :
    Calls Tryz.prog 46 #[.pointer (some ⟨b, 0, none⟩), .string key, .string value] w (HoldPost w0.heap.size B N b P n last key value w) := by
  have hAw := hB0.size
  have hi : P.info.length = 32 := hO.info
  have hblt := hR.lt
  obtain ⟨e0, e1, e2, e3, e4⟩ := keyb key
  rw [hk] at e0 e1 e2 e3 e4
  replace e0 := e0.trans (show _ = false by decide)
  replace e1 := e1.trans (show _ = true by decide)
  replace e2 := e2.trans (show _ = false by decide)
  replace e3 := e3.trans (show _ = false by decide)
  replace e4 := e4.trans (show _ = false by decide)
  have hsb : (value.toList == []) = decide (value = ⟨#[]⟩) := by rw [← str_beq, Lib.toList_data ⟨#[]⟩]
  have hsb' := isEmpty_str value
  obtain ⟨A, hBB⟩ : ∃ A, w0.heap.size = A := ⟨_, rfl⟩
  have HB0 : Hid (Below A w0 w) := by rw [← hBB]; exact hB0
  have HG := Lib.hid hG
  have HR := Lib.hid hR
  have HO : Hid (OL w B N P tv pv ov mv) := hO
  have HI := Lib.hid hi
  have HKI := Lib.hid hk
  have HH : Hid (holdP P key value = if value = ⟨#[]⟩ then (P, 226) else ({ P with name := value }, 0)) := by
    refine Lib.hid ?_
    unfold holdP
    simp only [hk]
    simp
  rw [hBB] at hb hAw hAB ⊢
  clear hB0 hG hR hO hi hk
  go_enter Tryz.func46, Tryz.ntmps46
  by_cases he : value = ⟨#[]⟩
  · rw [decide_eq_true he] at hsb hsb'
    have HC : Hid ((holdP P key value).2 = 226) := by rw [HH.out, if_pos he]; exact Lib.hid rfl
    clear he
    go_wp2
    go_ret
    exact ⟨P, tv, pv, ov, mv, by rw [HC.out]; rfl, HR.out, HO.out.more (Nat.le_succ N), (fun h => by rw [HC.out] at h; cases h), (Below.refl _ _).mono hAw, KeptR.refl _ _ _⟩
  rw [decide_eq_false he] at hsb hsb'
  rw [if_neg he] at HH
  clear he
  have c32 := HR.out.c32 HI.out
  have f32 := HR.out.frozen 32
  obtain ⟨W1, hW1⟩ : ∃ W1, w.setCell ⟨b, 32, none⟩ (.string value) = W1 := ⟨_, rfl⟩
  have HR1 := Lib.hid (HR.out.set32 HI.out value)
  rw [hW1] at HR1
  have hg1 : w.grownBy W1 (some b) := hW1 ▸ grown_setCell _ _ _ _
  have ho1 := HO.out.turn hg1 HR.out (by decide) (by decide) (by decide)
  have HO1 : Hid (OL W1 B (N + 1) { P with name := value } tv pv ov mv) :=
    ⟨ho1.info, by show value.size ≤ _; omega, ho1.tr, ho1.pe, ho1.on, ho1.mo, ho1.tp, (ho1.more (Nat.le_succ N)).cnt, ho1.trs, ho1.pes, ho1.mos, ho1.who⟩
  have HB1 : Hid (Below A w W1) := Below.turn (Below.refl _ _) hg1 hb hAw
  have HK1 : Hid (KeptR B b w W1) := KeptR.set HR.out hBw hg1
  clear hg1 ho1
  go_wp2
  go_ret
  exact ⟨_, _, _, _, _, by rw [HH.out]; rfl, HR1.out, HO1.out, fun _ => by rw [HH.out], HB1.out, HK1.out⟩


set_option maxHeartbeats 8000000 in
set_option maxRecDepth 100000 in
theorem hold2 (P : Pk) (tv pv ov mv : Value) (n : Nat) (last key value : ByteArray) (B N b : Nat) (w0 w : World) (hG : Ground w0) (hB0 : Below w0.heap.size w0 w) (hAB : w0.heap.size ≤ B) (hBw : B ≤ w.heap.size) (hR : Rd w b P tv pv ov mv n last) (hO : OL w B N P tv pv ov mv) (hb : w0.heap.size ≤ b) (hN : N ≤ 100000) (hks : key.size ≤ 1000000) (hvs : value.size ≤ 1000000) (hk : kindI key = 2) (hP : P.only = []) :
    Calls Tryz.prog 46 #[.pointer (some ⟨b, 0, none⟩), .string key, .string value] w (HoldPost w0.heap.size B N b P n last key value w) := by
  have hAw := hB0.size
  have hi : P.info.length = 32 := hO.info
  have hblt := hR.lt
  obtain ⟨e0, e1, e2, e3, e4⟩ := keyb key
  rw [hk] at e0 e1 e2 e3 e4
  replace e0 := e0.trans (show _ = false by decide)
  replace e1 := e1.trans (show _ = false by decide)
  replace e2 := e2.trans (show _ = true by decide)
  replace e3 := e3.trans (show _ = false by decide)
  replace e4 := e4.trans (show _ = false by decide)
  have hsb : (value.toList == []) = decide (value = ⟨#[]⟩) := by rw [← str_beq, Lib.toList_data ⟨#[]⟩]
  have hsb' := isEmpty_str value
  obtain ⟨A, hBB⟩ : ∃ A, w0.heap.size = A := ⟨_, rfl⟩
  have HB0 : Hid (Below A w0 w) := by rw [← hBB]; exact hB0
  have HG := Lib.hid hG
  have HR := Lib.hid hR
  have HO : Hid (OL w B N P tv pv ov mv) := hO
  have HI := Lib.hid hi
  have HKI := Lib.hid hk
  have HH : Hid (holdP P key value = onlyP P (runsS value.data.toList)) := by
    refine Lib.hid ?_
    unfold holdP
    simp only [hk]
    simp; cases runsS value.data.toList <;> rfl
  rw [hBB] at hb hAw hAB ⊢
  clear hB0 hG hR hO hi hk
  go_enter Tryz.func46, Tryz.ntmps46
  generalize decide (value = ⟨#[]⟩) = vb at hsb hsb'
  have hrun := runs P hP tv pv ov mv n last value B N b w0 w HG.out (by rw [hBB]; exact HB0.out) (by rw [hBB]; exact hAB) hBw HR.out HO.out (by rw [hBB]; exact hb) hvs
  rw [hBB] at hrun
  obtain ⟨R, hRR⟩ : ∃ R, runsS value.data.toList = R := ⟨_, rfl⟩
  rw [hRR] at hrun HH
  have HRUN := Lib.hid hrun
  clear hrun hRR
  have HH2 : Hid (holdP P key value = onlyP P R) := by rw [HH.out]; exact Lib.hid rfl
  cases vb
  all_goals
    go_wp2_with fail
    refine HRUN.out.mono ?_
    rintro e w1 ⟨l, ov1, rfl, hR1, hO1, hz, hB1, hK1⟩
    have HR1 := Lib.hid hR1
    have HO1 := Lib.hid (hO1.more (Nat.le_succ N))
    have HZ : Hid ((onlyP P R).2 = 0 → { P with only := l } = (onlyP P R).1) := fun h => by
      have h1 := hz h
      subst h1
      have h2 : onlyP P (some l) = if T (apartP l) then ({ P with only := l }, 0) else (P, 227) := rfl
      rw [h2] at h ⊢
      split at h
      · rename_i h3; rw [if_pos h3]
      · cases h
    have HB1 := Lib.hid hB1
    have HK1 := Lib.hid hK1
    clear hR1 hO1 hz hB1 hK1
    obtain ⟨E, hE⟩ : ∃ E, (onlyP P R).2 = E := ⟨_, rfl⟩
    have HE := Lib.hid hE
    rw [hE]
    clear hE
    go_wp2
    go_ret
    exact ⟨_, _, _, _, _, by rw [HH2.out, HE.out]; rfl, HR1.out, HO1.out, (fun h => by rw [HH2.out] at h ⊢; exact HZ.out h), HB1.out, HK1.out⟩


set_option maxHeartbeats 8000000 in
set_option maxRecDepth 100000 in
theorem hold3 (P : Pk) (tv pv ov mv : Value) (n : Nat) (last key value : ByteArray) (B N b : Nat) (w0 w : World) (hG : Ground w0) (hB0 : Below w0.heap.size w0 w) (hAB : w0.heap.size ≤ B) (hBw : B ≤ w.heap.size) (hR : Rd w b P tv pv ov mv n last) (hO : OL w B N P tv pv ov mv) (hb : w0.heap.size ≤ b) (hN : N ≤ 100000) (hks : key.size ≤ 1000000) (hvs : value.size ≤ 1000000) (hk : kindI key = 3) :
    Calls Tryz.prog 46 #[.pointer (some ⟨b, 0, none⟩), .string key, .string value] w (HoldPost w0.heap.size B N b P n last key value w) := by
  have hAw := hB0.size
  have hi : P.info.length = 32 := hO.info
  have hblt := hR.lt
  obtain ⟨e0, e1, e2, e3, e4⟩ := keyb key
  rw [hk] at e0 e1 e2 e3 e4
  replace e0 := e0.trans (show _ = false by decide)
  replace e1 := e1.trans (show _ = false by decide)
  replace e2 := e2.trans (show _ = false by decide)
  replace e3 := e3.trans (show _ = true by decide)
  replace e4 := e4.trans (show _ = false by decide)
  have hsb : (value.toList == []) = decide (value = ⟨#[]⟩) := by rw [← str_beq, Lib.toList_data ⟨#[]⟩]
  have hsb' := isEmpty_str value
  obtain ⟨A, hBB⟩ : ∃ A, w0.heap.size = A := ⟨_, rfl⟩
  have HB0 : Hid (Below A w0 w) := by rw [← hBB]; exact hB0
  have HG := Lib.hid hG
  have HR := Lib.hid hR
  have HO : Hid (OL w B N P tv pv ov mv) := hO
  have HI := Lib.hid hi
  have HKI := Lib.hid hk
  have HH : Hid (holdP P key value = if value = ⟨#[]⟩ then (P, 226) else ({ P with trackers := P.trackers ++ [value] }, 0)) := by
    refine Lib.hid ?_
    unfold holdP
    simp only [hk]
    simp
  rw [hBB] at hb hAw hAB ⊢
  clear hB0 hG hR hO hi hk
  go_enter Tryz.func46, Tryz.ntmps46
  by_cases he : value = ⟨#[]⟩
  · rw [decide_eq_true he] at hsb hsb'
    have HC : Hid ((holdP P key value).2 = 226) := by rw [HH.out, if_pos he]; exact Lib.hid rfl
    clear he
    go_wp2
    go_ret
    exact ⟨P, tv, pv, ov, mv, by rw [HC.out]; rfl, HR.out, HO.out.more (Nat.le_succ N), (fun h => by rw [HC.out] at h; cases h), (Below.refl _ _).mono hAw, KeptR.refl _ _ _⟩
  rw [decide_eq_false he] at hsb hsb'
  rw [if_neg he] at HH
  clear he
  have c33 := HR.out.c33 HI.out
  have hm1 : P.trackers.length + 1 ≤ maxLen := by have := HO.out.cnt; unfold maxLen; omega
  have hm2 : (P.trackers.length + 1) * 16 ≤ 140737488355328 := by have := HO.out.cnt; omega
  go_wp2_with (at_builtin; refine wpList_appL rfl _ _ 25 rfl B 9 _ 1 16 Twin.infoS rfl (by decide) Tryz.underlying25 _ _ _ rfl (HO.out.tr.alloc _) ⟨w.heap.size, 0, none⟩ 1 1 [.string value] rfl rfl (news_block (cs := #[.string value]) (Go.heap_alloc_new _ _)) (by simp [Value.oneCell']) (by decide) hm1 hm2 (by simp; omega) ?_)
  intro g cap w3 ho3 hgr3 hlie _
  have hb2 : Below w.heap.size w (w.alloc (.cells #[.string value] 9)) := (Below.refl _ _).alloc (Nat.le_refl _) _
  have HO3 := Lib.hid (HO.out.tracker (by omega) ho3 hgr3 (hlie.imp id (fun e => by rw [e]; simp)))
  have hk3 : KeptT w w3 := (KeptT.of_below hb2).trans (KeptT.grown (HO.out.tr.alloc _) hgr3 (Or.inl rfl))
  have hR3 : Rd w3 b P tv pv ov mv n last := hk3.2 _ _ _ _ (by decide) (by decide) (by decide) HR.out
  have HB3 : Hid (Below A w w3) := (Below.alloc (Below.refl A w) (by omega) _).grown hgr3 (by simp; omega) (fun k hk => Nat.le_trans hAB (HO.out.tr.lt k hk).1)
  have HK3 : Hid (KeptR B b w w3) := (KeptR.of_below hb2 hBw).trans (KeptR.of_grown (HO.out.tr.alloc _) (by simp; omega) hgr3)
  have hsz3 := hk3.1
  have HR3 := Lib.hid hR3
  have d33 := hR3.c33 HI.out
  have f33 := hR3.frozen 33
  obtain ⟨W1, hW1⟩ : ∃ W1, w3.setCell ⟨b, 33, none⟩ (.slice (some ⟨g, 0, none⟩) (P.trackers.length + 1) cap) = W1 := ⟨_, rfl⟩
  have HR1 := Lib.hid (HR3.out.set33 HI.out (.slice (some ⟨g, 0, none⟩) (P.trackers.length + 1) cap) (P.trackers ++ [value]))
  rw [hW1] at HR1
  have hg1 : w3.grownBy W1 (some b) := hW1 ▸ grown_setCell _ _ _ _
  have HO1 := Lib.hid (HO3.out.turn hg1 HR3.out (by decide) (by decide) (by decide))
  have HB1 : Hid (Below A w W1) := Below.turn HB3.out hg1 hb (by omega)
  have HK1 : Hid (KeptR B b w W1) := HK3.out.trans (KeptR.set HR3.out (by omega) hg1)
  clear hg1 hR3 hk3 ho3 hgr3 hlie hb2 c33
  go_wp2
  go_ret
  exact ⟨_, _, _, _, _, by rw [HH.out]; rfl, HR1.out, HO1.out, fun _ => by rw [HH.out], HB1.out, HK1.out⟩


set_option maxHeartbeats 8000000 in
set_option maxRecDepth 100000 in
theorem hold4 (P : Pk) (tv pv ov mv : Value) (n : Nat) (last key value : ByteArray) (B N b : Nat) (w0 w : World) (hG : Ground w0) (hB0 : Below w0.heap.size w0 w) (hAB : w0.heap.size ≤ B) (hBw : B ≤ w.heap.size) (hR : Rd w b P tv pv ov mv n last) (hO : OL w B N P tv pv ov mv) (hb : w0.heap.size ≤ b) (hN : N ≤ 100000) (hks : key.size ≤ 1000000) (hvs : value.size ≤ 1000000) (hk : kindI key = 4) :
    Calls Tryz.prog 46 #[.pointer (some ⟨b, 0, none⟩), .string key, .string value] w (HoldPost w0.heap.size B N b P n last key value w) := by
  have hAw := hB0.size
  have hi : P.info.length = 32 := hO.info
  have hblt := hR.lt
  obtain ⟨e0, e1, e2, e3, e4⟩ := keyb key
  rw [hk] at e0 e1 e2 e3 e4
  replace e0 := e0.trans (show _ = false by decide)
  replace e1 := e1.trans (show _ = false by decide)
  replace e2 := e2.trans (show _ = false by decide)
  replace e3 := e3.trans (show _ = false by decide)
  replace e4 := e4.trans (show _ = true by decide)
  have hsb : (value.toList == []) = decide (value = ⟨#[]⟩) := by rw [← str_beq, Lib.toList_data ⟨#[]⟩]
  have hsb' := isEmpty_str value
  obtain ⟨A, hBB⟩ : ∃ A, w0.heap.size = A := ⟨_, rfl⟩
  have HB0 : Hid (Below A w0 w) := by rw [← hBB]; exact hB0
  have HG := Lib.hid hG
  have HR := Lib.hid hR
  have HO : Hid (OL w B N P tv pv ov mv) := hO
  have HI := Lib.hid hi
  have HKI := Lib.hid hk
  have HH : Hid (holdP P key value = if value = ⟨#[]⟩ then (P, 226) else ({ P with peers := P.peers ++ [value] }, 0)) := by
    refine Lib.hid ?_
    unfold holdP
    simp only [hk]
    simp
  rw [hBB] at hb hAw hAB ⊢
  clear hB0 hG hR hO hi hk
  go_enter Tryz.func46, Tryz.ntmps46
  by_cases he : value = ⟨#[]⟩
  · rw [decide_eq_true he] at hsb hsb'
    have HC : Hid ((holdP P key value).2 = 226) := by rw [HH.out, if_pos he]; exact Lib.hid rfl
    clear he
    go_wp2
    go_ret
    exact ⟨P, tv, pv, ov, mv, by rw [HC.out]; rfl, HR.out, HO.out.more (Nat.le_succ N), (fun h => by rw [HC.out] at h; cases h), (Below.refl _ _).mono hAw, KeptR.refl _ _ _⟩
  rw [decide_eq_false he] at hsb hsb'
  rw [if_neg he] at HH
  clear he
  have c34 := HR.out.c34 HI.out
  have hm1 : P.peers.length + 1 ≤ maxLen := by have := HO.out.cnt; unfold maxLen; omega
  have hm2 : (P.peers.length + 1) * 16 ≤ 140737488355328 := by have := HO.out.cnt; omega
  go_wp2_with (at_builtin; refine wpList_appL rfl _ _ 25 rfl B 9 _ 1 16 Twin.infoS rfl (by decide) Tryz.underlying25 _ _ _ rfl (HO.out.pe.alloc _) ⟨w.heap.size, 0, none⟩ 1 1 [.string value] rfl rfl (news_block (cs := #[.string value]) (Go.heap_alloc_new _ _)) (by simp [Value.oneCell']) (by decide) hm1 hm2 (by simp; omega) ?_)
  intro g cap w3 ho3 hgr3 hlie _
  have hb2 : Below w.heap.size w (w.alloc (.cells #[.string value] 9)) := (Below.refl _ _).alloc (Nat.le_refl _) _
  have HO3 := Lib.hid (HO.out.peer (by omega) ho3 hgr3 (hlie.imp id (fun e => by rw [e]; simp)))
  have hk3 : KeptT w w3 := (KeptT.of_below hb2).trans (KeptT.grown (HO.out.pe.alloc _) hgr3 (Or.inl rfl))
  have hR3 : Rd w3 b P tv pv ov mv n last := hk3.2 _ _ _ _ (by decide) (by decide) (by decide) HR.out
  have HB3 : Hid (Below A w w3) := (Below.alloc (Below.refl A w) (by omega) _).grown hgr3 (by simp; omega) (fun k hk => Nat.le_trans hAB (HO.out.pe.lt k hk).1)
  have HK3 : Hid (KeptR B b w w3) := (KeptR.of_below hb2 hBw).trans (KeptR.of_grown (HO.out.pe.alloc _) (by simp; omega) hgr3)
  have hsz3 := hk3.1
  have HR3 := Lib.hid hR3
  have d34 := hR3.c34 HI.out
  have f34 := hR3.frozen 34
  obtain ⟨W1, hW1⟩ : ∃ W1, w3.setCell ⟨b, 34, none⟩ (.slice (some ⟨g, 0, none⟩) (P.peers.length + 1) cap) = W1 := ⟨_, rfl⟩
  have HR1 := Lib.hid (HR3.out.set34 HI.out (.slice (some ⟨g, 0, none⟩) (P.peers.length + 1) cap) (P.peers ++ [value]))
  rw [hW1] at HR1
  have hg1 : w3.grownBy W1 (some b) := hW1 ▸ grown_setCell _ _ _ _
  have HO1 := Lib.hid (HO3.out.turn hg1 HR3.out (by decide) (by decide) (by decide))
  have HB1 : Hid (Below A w W1) := Below.turn HB3.out hg1 hb (by omega)
  have HK1 : Hid (KeptR B b w W1) := HK3.out.trans (KeptR.set HR3.out (by omega) hg1)
  clear hg1 hR3 hk3 ho3 hgr3 hlie hb2 c34
  go_wp2
  go_ret
  exact ⟨_, _, _, _, _, by rw [HH.out]; rfl, HR1.out, HO1.out, fun _ => by rw [HH.out], HB1.out, HK1.out⟩


end Go.Proofs.YtdfiblaboddbjaaGreatDoor.Prs
