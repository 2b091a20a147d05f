/-
  The program's take.
-/
import Derived.Test.YtdfiblaboddbjaaGreatDoorMagPgG
namespace Go.Proofs.YtdfiblaboddbjaaGreatDoor.Prs
open Go.RowKit Go.Proofs.YtdfiblaboddbjaaGreatDoor.Base Go.Proofs.YtdfiblaboddbjaaGreatDoor.Rep Go.Proofs.YtdfiblaboddbjaaGreatDoor.Mag Go.Proofs.YtdfiblaboddbjaaGreatDoor.Has
set_option linter.unusedVariables false
set_option linter.unusedSimpArgs false

theorem hold (P : Pk) (tv pv ov mv : Value) (n : Nat) (last key value : ByteArray) (B N b : Nat) (w0 w : World) (hG : Ground w0) (hB0 : Below w0.heap.size w0 w) (hAB : w0.heap.size ≤ B) (hBw : B ≤ w.heap.size) (hR : Rd w b P tv pv ov mv n last) (hO : OL w B N P tv pv ov mv) (hb : w0.heap.size ≤ b) (hN : N ≤ 100000) (hks : key.size ≤ 1000000) (hvs : value.size ≤ 1000000) (hP : kindI key = 2 → P.only = []) :
    Calls Tryz.prog 46 #[.pointer (some ⟨b, 0, none⟩), .string key, .string value] w (HoldPost w0.heap.size B N b P n last key value w) := by
  have hr := kindI_range key
  rcases (by omega : kindI key = 0 ∨ kindI key = 1 ∨ kindI key = 2 ∨ kindI key = 3 ∨ kindI key = 4 ∨ kindI key = 5) with h | h | h | h | h | h
  · exact hold0 P tv pv ov mv n last key value B N b w0 w hG hB0 hAB hBw hR hO hb hN hks hvs h
  · exact hold1 P tv pv ov mv n last key value B N b w0 w hG hB0 hAB hBw hR hO hb hN hks hvs h
  · exact hold2 P tv pv ov mv n last key value B N b w0 w hG hB0 hAB hBw hR hO hb hN hks hvs h (hP h)
  · exact hold3 P tv pv ov mv n last key value B N b w0 w hG hB0 hAB hBw hR hO hb hN hks hvs h
  · exact hold4 P tv pv ov mv n last key value B N b w0 w hG hB0 hAB hBw hR hO hb hN hks hvs h
  · exact hold5 P tv pv ov mv n last key value B N b w0 w hG hB0 hAB hBw hR hO hb hN hks hvs h

theorem plc_miss {l : List UInt8} (h : (61 : UInt8) ∉ l) : plc l 61 = -1 := by
  unfold plc
  have : l.findIdx? (fun b => b.toNat == 61) = none := by
    rw [List.findIdx?_eq_none_iff]
    intro x hx
    have : x ≠ 61 := fun e => h (e ▸ hx)
    have : x.toNat ≠ 61 := fun e => this (by rw [← UInt8.toNat_inj]; exact e)
    simpa using this
  rw [this]
theorem plc_hit {d v : List UInt8} (h : (61 : UInt8) ∉ d) : plc (d ++ 61 :: v) 61 = (d.length : Int) := by
  unfold plc
  have : (d ++ 61 :: v).findIdx? (fun b => b.toNat == 61) = some d.length := by
    rw [List.findIdx?_eq_some_iff_getElem]
    refine ⟨by simp, by simp, fun j hj => ?_⟩
    rw [List.getElem_append_left hj]
    have : d[j] ≠ 61 := fun e => h (e ▸ List.getElem_mem hj)
    have : d[j].toNat ≠ 61 := fun e => this (by rw [← UInt8.toNat_inj]; exact e)
    simpa using this
  rw [this]

theorem Rd.set37 {w : World} {b : Nat} {P : Pk} {tv pv ov mv : Value} {n : Nat} {last : ByteArray} (h : Rd w b P tv pv ov mv n last) (hi : P.info.length = 32) (m : Nat) : Rd (w.setCell ⟨b, 37, none⟩ (.int .i64 (m : Int))) b P tv pv ov mv m last := by
  have := h.set (j := 37) (.int .i64 (m : Int))
  have e : (rcells P tv pv ov mv n last).set 37 (.int .i64 (m : Int)) = rcells P tv pv ov mv m last := by
    unfold rcells
    rw [List.set_append_right _ _ (by rw [lcells_length (X := P.lk) hi]; decide), lcells_length (X := P.lk) hi]; rfl
  rw [e] at this
  exact this
theorem Rd.set38 {w : World} {b : Nat} {P : Pk} {tv pv ov mv : Value} {n : Nat} {last : ByteArray} (h : Rd w b P tv pv ov mv n last) (hi : P.info.length = 32) (s : ByteArray) : Rd (w.setCell ⟨b, 38, none⟩ (.string s)) b P tv pv ov mv n s := by
  have := h.set (j := 38) (.string s)
  have e : (rcells P tv pv ov mv n last).set 38 (.string s) = rcells P tv pv ov mv n s := by
    unfold rcells
    rw [List.set_append_right _ _ (by rw [lcells_length (X := P.lk) hi]; decide), lcells_length (X := P.lk) hi]; rfl
  rw [e] at this
  exact this

/-- What take leans on: the wanted files were told, if at all, by the keys ahead. -/
def Inv (P : Pk) (n : Nat) (last : ByteArray) : Prop := (P.only ≠ [] → 2 ≤ kindI last) ∧ (n = 0 → P.only = [])

theorem place_inv {P : Pk} {n : Nat} {last key value : ByteArray} (h : Inv P n last) (hp : placeE P n last key value = 0) : (kindI key ≤ 2 → P.only = []) ∧ (P.only ≠ [] → 2 ≤ kindI key) := by
  have key2 : P.only ≠ [] → 2 < kindI key := by
    intro hne
    have hn : n ≠ 0 := fun e => hne (h.2 e)
    have hl := h.1 hne
    by_cases hk : kindI key = 0
    · rw [placeE_xt hk] at hp
      split at hp
      · omega
      · rw [if_pos (by omega)] at hp; omega
    · rw [placeE_other hk hn] at hp
      unfold orderE at hp
      split at hp
      · omega
      · split at hp
        · omega
        · rename_i h1 h2
          rcases Int.lt_trichotomy (kindI key) 2 with h3 | h3 | h3
          · omega
          · exfalso; exact h2 (Or.inl ⟨Or.inr h3, by omega⟩)
          · exact h3
  refine ⟨fun hk => ?_, fun hne => by have := key2 hne; omega⟩
  by_cases hne : P.only = []
  · exact hne
  · have := key2 hne; omega

theorem holdP_only {P : Pk} {key value : ByteArray} : (holdP P key value).1.only = P.only ∨ kindI key = 2 := by
  unfold holdP
  split
  · split <;> exact Or.inl rfl
  split
  · exact Or.inl rfl
  split
  · exact Or.inl rfl
  split
  · rename_i h; exact Or.inr h
  split
  · exact Or.inl rfl
  split <;> exact Or.inl rfl

theorem inv_step {P : Pk} {n : Nat} {last : ByteArray} {l : List UInt8} (h : Inv P n last) (hz : (stepP P n last l).2.2.2 = 0) : Inv (stepP P n last l).1 (n + 1) (stepP P n last l).2.1 := by
  refine ⟨?_, fun h => by omega⟩
  rcases plc_range l 61 with hq | ⟨m, hm, hq⟩
  · rw [stepP_a (by omega)] at hz; cases hz
  · by_cases h0 : m = 0
    · rw [stepP_a (by omega)] at hz; cases hz
    · cases hu : une 0 (l.take m) with
      | error i => rw [stepP_b hq (by omega) hu] at hz; cases hz
      | ok kl =>
        cases hv : une 0 (l.drop (m + 1)) with
        | error i => rw [stepP_c hq (by omega) hu hv] at hz; cases hz
        | ok vl =>
          rw [stepP_d hq (by omega) hu hv] at hz ⊢
          split at hz
          · rename_i hp; exact absurd hz hp
          · rename_i hp
            rw [if_neg hp]
            have hp' : placeE P n last ⟨kl.toArray⟩ ⟨vl.toArray⟩ = 0 := by
              by_cases e : placeE P n last ⟨kl.toArray⟩ ⟨vl.toArray⟩ = 0
              · exact e
              · exact absurd e hp
            have hi := place_inv h hp'
            intro hne
            show 2 ≤ kindI ⟨kl.toArray⟩
            rcases holdP_only (P := P) (key := ⟨kl.toArray⟩) (value := ⟨vl.toArray⟩) with h1 | h1
            · exact hi.2 (by rw [← h1]; exact hne)
            · omega

/-- What the program's take hands back. -/
def TakePost (A B N b : Nat) (P : Pk) (n : Nat) (last : ByteArray) (l : List UInt8) (w : World) (e : Ending) (w' : World) : Prop :=
  ∃ (Q : Pk) (tv' pv' ov' mv' : Value) (n' : Nat) (last' : ByteArray), e = .returned (.tuple #[.int .i64 (stepP P n last l).2.2.1, .int .i64 (stepP P n last l).2.2.2]) ∧ Rd w' b Q tv' pv' ov' mv' n' last' ∧ OL w' B (N + 1) Q tv' pv' ov' mv' ∧
    ((stepP P n last l).2.2.2 = 0 → Q = (stepP P n last l).1 ∧ n' = n + 1 ∧ last' = (stepP P n last l).2.1) ∧ Below A w w' ∧ KeptR B b w w'

set_option maxHeartbeats 8000000 in
set_option maxRecDepth 100000 in
theorem take (P : Pk) (tv pv ov mv : Value) (n : Nat) (last p : ByteArray) (B N b : Nat) (w0 w : World) (hG : Ground w0) (hB0 : Below w0.heap.size w0 w) (hAB : w0.heap.size ≤ B) (hBw : B ≤ w.heap.size) (hR : Rd w b P tv pv ov mv n last) (hO : OL w B N P tv pv ov mv) (hb : w0.heap.size ≤ b) (hN : N ≤ 100000) (hn : n ≤ 1048576) (hps : p.size ≤ 1000000) (hI : Inv P n last) :
    Calls Tryz.prog 24 #[.pointer (some ⟨b, 0, none⟩), .string p] w (TakePost w0.heap.size B N b P n last p.data.toList w) := by
  have hZw := hB0.size
  have hi : P.info.length = 32 := hO.info
  have hblt := hR.lt
  have hpl : p.data.toList.length = p.size := by simp
  obtain ⟨m, hm0, hm⟩ := (hG.keep hB0).cut
  have hcut := Tryz.strings_Cut p ⟨#[61]⟩ m w (by omega) hm
  obtain ⟨Z, hBB⟩ : ∃ Z, w0.heap.size = Z := ⟨_, rfl⟩
  have HB0 := Lib.hid hB0
  have HG := Lib.hid hG
  have HR := Lib.hid hR
  have HO := Lib.hid hO
  have HI := Lib.hid hi
  have HINV := Lib.hid hI
  have hbB := hb
  have hABw := hAB
  rw [hBB] at hb hZw hAB ⊢
  clear hB0 hG hR hO hi hI hm hm0
  have kept : ∀ w', Below w.heap.size w w' → Rd w' b P tv pv ov mv n last ∧ OL w' B N P tv pv ov mv ∧ Below Z w w' ∧ KeptR B b w w' := fun w' h => ⟨HR.out.below h hblt, HO.out.below h, h.mono hZw, KeptR.of_below h hBw⟩
  have KEPT := Lib.hid kept
  clear kept
  rcases first_at 61 p.data.toList with hno | ⟨d, v, hdv, hno⟩
  · have hst := stepP_a (P := P) (n := n) (last := last) (l := p.data.toList) (by rw [plc_miss hno]; decide)
    have HST := Lib.hid hst
    have hc : Lib.cut p.data.toList (⟨#[61]⟩ : ByteArray).data.toList = (p.data.toList, [], false) := cut1_miss 61 _ hno
    rw [hc] at hcut
    obtain ⟨X, hX⟩ : ∃ X : ByteArray, (⟨p.data.toList.toArray⟩ : ByteArray) = X := ⟨_, rfl⟩
    simp only [hX] at hcut
    have HCUT := Lib.hid hcut
    clear hcut hst hc hX hno
    go_enter Tryz.func24, Tryz.ntmps24
    go_wp2_with fail
    refine HCUT.out.mono ?_
    rintro e w1 ⟨rfl, nd, hw1⟩
    obtain ⟨h1, h2, h3, h4⟩ := KEPT.out w1 (by rw [hw1]; exact below_N (Below.refl _ _) nd)
    have H1 := Lib.hid h1
    have H2 := Lib.hid h2
    have H3 := Lib.hid h3
    have H4 := Lib.hid h4
    clear h1 h2 h3 h4 hw1
    go_wp2
    go_ret2
    exact ⟨P, tv, pv, ov, mv, n, last, by rw [HST.out]; rfl, H1.out, H2.out.more (Nat.le_succ N), (fun h => by rw [HST.out] at h; cases h), H3.out, H4.out⟩
  have hdvl : d.length + (v.length + 1) = p.size := by rw [← hpl, hdv, List.length_append, List.length_cons]
  have hq : plc p.data.toList 61 = (d.length : Int) := by rw [hdv]; exact plc_hit hno
  have htk : p.data.toList.take d.length = d := by rw [hdv, List.take_left]
  have hdr : p.data.toList.drop (d.length + 1) = v := by rw [hdv, ← List.drop_drop, List.drop_left]; rfl
  have hc : Lib.cut p.data.toList (⟨#[61]⟩ : ByteArray).data.toList = (d, v, true) := by rw [hdv]; exact cut1_hit 61 _ _ hno
  rw [hc] at hcut
  obtain ⟨A, hA⟩ : ∃ A : ByteArray, (⟨d.toArray⟩ : ByteArray) = A := ⟨_, rfl⟩
  obtain ⟨D, hD⟩ : ∃ D : ByteArray, (⟨v.toArray⟩ : ByteArray) = D := ⟨_, rfl⟩
  have hA1 : A.data.toList = d := by rw [← hA]
  have hD1 : D.data.toList = v := by rw [← hD]
  have hAs : A.size = d.length := by rw [← hA]; show d.toArray.size = _; rw [List.size_toArray]
  have hDs : D.size = v.length := by rw [← hD]; show v.toArray.size = _; rw [List.size_toArray]
  simp only [hA, hD] at hcut
  have HCUT := Lib.hid hcut
  have hsb : (A.toList == []) = decide (A = ⟨#[]⟩) := by rw [← str_beq, Lib.toList_data ⟨#[]⟩]
  have hsb' := isEmpty_str A
  have hA0 : A = ⟨#[]⟩ ↔ d.length = 0 := by
    rw [← hAs]
    constructor
    · intro h; rw [h]; rfl
    · intro h
      have := ByteArray.size_eq_zero_iff.1 h
      exact this
  by_cases hd0 : d.length = 0
  · have HST := Lib.hid (stepP_a (P := P) (n := n) (last := last) (l := p.data.toList) (by rw [hq, hd0]; decide))
    rw [decide_eq_true (hA0.2 hd0)] at hsb hsb'
    clear hcut hc hdv hq htk hdr hno hA hD hA1 hD1 hA0
    go_enter Tryz.func24, Tryz.ntmps24
    go_wp2_with fail
    refine HCUT.out.mono ?_
    rintro e w1 ⟨rfl, nd, hw1⟩
    obtain ⟨h1, h2, h3, h4⟩ := KEPT.out w1 (by rw [hw1]; exact below_N (Below.refl _ _) nd)
    have H1 := Lib.hid h1
    have H2 := Lib.hid h2
    have H3 := Lib.hid h3
    have H4 := Lib.hid h4
    clear h1 h2 h3 h4 hw1
    go_wp2
    go_ret2
    exact ⟨P, tv, pv, ov, mv, n, last, by rw [HST.out]; rfl, H1.out, H2.out.more (Nat.le_succ N), (fun h => by rw [HST.out] at h; cases h), H3.out, H4.out⟩
  rw [decide_eq_false (fun h => hd0 (hA0.1 h))] at hsb hsb'
  have HQ := Lib.hid hq
  have HTK := Lib.hid htk
  have HDR := Lib.hid hdr
  have hd1 : 1 ≤ d.length := by omega
  have hpA : ∀ w', Calls Tryz.prog 44 #[.string A] w' fun e w'' => e = .returned (uneV (une 0 d)) ∧ Below w'.heap.size w' w'' := fun w' => by
    have := plain A w' (by omega)
    rw [hA1] at this
    exact this
  have hpD : ∀ w', Calls Tryz.prog 44 #[.string D] w' fun e w'' => e = .returned (uneV (une 0 v)) ∧ Below w'.heap.size w' w'' := fun w' => by
    have := plain D w' (by omega)
    rw [hD1] at this
    exact this
  have HPA := Lib.hid hpA
  have HPD := Lib.hid hpD
  clear hcut hc hdv hq htk hdr hno hA hD hA1 hD1 hA0 hpA hpD
  go_enter Tryz.func24, Tryz.ntmps24
  go_wp2_with fail
  refine HCUT.out.mono ?_
  rintro e w1 ⟨rfl, nd, hw1⟩
  have hb1 : Below w.heap.size w w1 := by rw [hw1]; exact below_N (Below.refl _ _) nd
  have Hb1 := Lib.hid hb1
  clear hb1 hw1 HCUT
  go_wp2_with fail
  refine (HPA.out w1).mono ?_
  rintro e w2 ⟨rfl, hb2⟩
  have Hb2 : Hid (Below w.heap.size w w2) := Hb1.out.trans (hb2.mono Hb1.out.size)
  clear hb2 HPA Hb1
  cases hu : une 0 d with
  | error i =>
    have HST := Lib.hid (stepP_b (P := P) (n := n) (last := last) HQ.out hd1 (by rw [HTK.out]; exact hu))
    clear hu
    unfold uneV
    have hi0 : (0 : Int) ≤ (i : Int) := by omega
    obtain ⟨h1, h2, h3, h4⟩ := KEPT.out w2 Hb2.out
    have H1 := Lib.hid h1
    have H2 := Lib.hid h2
    have H3 := Lib.hid h3
    have H4 := Lib.hid h4
    clear h1 h2 h3 h4
    go_wp2
    go_ret2
    exact ⟨P, tv, pv, ov, mv, n, last, by rw [HST.out]; rfl, H1.out, H2.out.more (Nat.le_succ N), (fun h => by rw [HST.out] at h; cases h), H3.out, H4.out⟩
  | ok kl =>
  have hkl : kl.length ≤ d.length := une_len _ _ _ _ (Nat.le_refl _) hu
  have HU := Lib.hid hu
  clear hu
  have hEk : uneV (.ok kl) = .tuple #[.string ⟨kl.toArray⟩, .int .i64 (-1)] := rfl
  rw [hEk]
  obtain ⟨key, hkey⟩ : ∃ key : ByteArray, (⟨kl.toArray⟩ : ByteArray) = key := ⟨_, rfl⟩
  have hks : key.size ≤ 1000000 := by rw [← hkey]; show kl.toArray.size ≤ _; rw [List.size_toArray]; omega
  rw [hkey]
  have HKEY := Lib.hid hkey
  clear hEk hkey
  go_wp2_with fail
  refine (HPD.out w2).mono ?_
  rintro e w3 ⟨rfl, hb3⟩
  have Hb3 : Hid (Below w.heap.size w w3) := Hb2.out.trans (hb3.mono Hb2.out.size)
  clear hb3 HPD Hb2
  cases hv : une 0 v with
  | error i =>
    have HST := Lib.hid (stepP_c (P := P) (n := n) (last := last) HQ.out hd1 (by rw [HTK.out]; exact HU.out) (by rw [HDR.out]; exact hv))
    have hil : i ≤ 1099511627776 := by
      have := une_err _ _ _ _ (Nat.le_refl _) hv
      omega
    clear hv
    unfold uneV
    have hi0 : (0 : Int) ≤ (i : Int) := by omega
    obtain ⟨h1, h2, h3, h4⟩ := KEPT.out w3 Hb3.out
    have H1 := Lib.hid h1
    have H2 := Lib.hid h2
    have H3 := Lib.hid h3
    have H4 := Lib.hid h4
    clear h1 h2 h3 h4
    go_wp2
    go_ret2
    exact ⟨P, tv, pv, ov, mv, n, last, by rw [HST.out]; first | rfl | (rw [hAs]; rfl), H1.out, H2.out.more (Nat.le_succ N), (fun h => by rw [HST.out] at h; cases h), H3.out, H4.out⟩
  | ok vl =>
  have hvl : vl.length ≤ v.length := une_len _ _ _ _ (Nat.le_refl _) hv
  have hEv : uneV (.ok vl) = .tuple #[.string ⟨vl.toArray⟩, .int .i64 (-1)] := rfl
  rw [hEv]
  have hst := stepP_d (P := P) (n := n) (last := last) HQ.out hd1 (by rw [HTK.out]; exact HU.out) (by rw [HDR.out]; exact hv)
  clear hv hEv
  obtain ⟨value, hvalue⟩ : ∃ value : ByteArray, (⟨vl.toArray⟩ : ByteArray) = value := ⟨_, rfl⟩
  have hvs : value.size ≤ 1000000 := by rw [← hvalue]; show vl.toArray.size ≤ _; rw [List.size_toArray]; omega
  rw [hvalue, HKEY.out] at hst
  rw [hvalue]
  clear hvalue HU HQ HTK HDR HKEY
  obtain ⟨h1, h2, h3, h4⟩ := KEPT.out w3 Hb3.out
  have H1 := Lib.hid h1
  have H2 := Lib.hid h2
  have H3 := Lib.hid h3
  have H4 := Lib.hid h4
  have hsz3 := Hb3.out.size
  clear h1 h2 h3 h4
  have hplace := place P tv pv ov mv n last key value B N b w3 H1.out H2.out hN hn
  obtain ⟨E, hE⟩ : ∃ E, placeE P n last key value = E := ⟨_, rfl⟩
  rw [hE] at hst hplace
  have HPL := Lib.hid hplace
  have HE := Lib.hid hE
  have HST := Lib.hid hst
  clear hst hplace hE
  go_wp2_with fail
  refine HPL.out.mono ?_
  rintro e w4 ⟨rfl, hb4⟩
  have H1' : Hid (Rd w4 b P tv pv ov mv n last) := H1.out.below hb4 H1.out.lt
  have H2' : Hid (OL w4 B N P tv pv ov mv) := H2.out.below hb4
  have H3' : Hid (Below Z w w4) := H3.out.trans (hb4.mono (by omega))
  have H4' : Hid (KeptR B b w w4) := H4.out.trans (KeptR.of_below hb4 (by omega))
  have hsz4 := hb4.size
  clear hb4 HPL
  -- the two stores at the end
  have fin : ∀ (w5 : World) (Q : Pk) (t5 p5 o5 m5 : Value) (M : Nat), Rd w5 b Q t5 p5 o5 m5 n last → OL w5 B M Q t5 p5 o5 m5 → M ≤ N + 1 → Below Z w w5 → KeptR B b w w5 →
      w5.cell? ⟨b, 37, none⟩ = some (.int .i64 (n : Int)) ∧ w5.frozen? ⟨b, 37, none⟩ = false ∧
      ∃ V, w5.setCell ⟨b, 37, none⟩ (.int .i64 ((n : Int) + 1)) = V ∧ V.cell? ⟨b, 38, none⟩ = some (.string last) ∧ V.frozen? ⟨b, 38, none⟩ = false ∧
      ∃ U, V.setCell ⟨b, 38, none⟩ (.string key) = U ∧ Hid (Rd U b Q t5 p5 o5 m5 (n + 1) key ∧ OL U B (N + 1) Q t5 p5 o5 m5 ∧ Below Z w U ∧ KeptR B b w U) := by
    intro w5 Q t5 p5 o5 m5 M r1 r2 rM r3 r4
    have q1 := r1.set37 r2.info (n + 1)
    rw [show ((n + 1 : Nat) : Int) = (n : Int) + 1 by omega] at q1
    have g1 := grown_setCell w5 b 37 (.int .i64 ((n : Int) + 1))
    have q2 := q1.set38 r2.info key
    have g2 := grown_setCell (w5.setCell ⟨b, 37, none⟩ (.int .i64 ((n : Int) + 1))) b 38 (.string key)
    have hs5 := r3.size
    have b5 : Below Z w (w5.setCell ⟨b, 37, none⟩ (.int .i64 ((n : Int) + 1))) := Below.turn r3 g1 hb (by have := r4.1; omega)
    refine ⟨r1.c37 r2.info, r1.frozen 37, _, rfl, q1.c38 r2.info, q1.frozen 38, _, rfl, q2, ?_, ?_, ?_⟩
    · exact ((r2.turn g1 r1 (by decide) (by decide) (by decide)).turn g2 q1 (by decide) (by decide) (by decide)).more rM
    · exact Below.turn b5 g2 hb (by have := r4.1; have := g1.size; omega)
    · exact (r4.trans (KeptR.set r1 (by have := r4.1; omega) g1)).trans (KeptR.set q1 (by have := r4.1; have := g1.size; omega) g2)
  have FIN := Lib.hid fin
  clear fin
  by_cases hE0 : E = 0
  · subst hE0
    have hhold := hold P tv pv ov mv n last key value B N b w0 w4 HG.out (HB0.out.trans (hBB ▸ H3'.out)) hABw (by omega) H1'.out H2'.out hbB hN hks hvs (fun hk => (place_inv HINV.out HE.out).1 (by omega))
    rw [hBB] at hhold
    have HH := Lib.hid hhold
    clear hhold
    have HST2 : Hid (stepP P n last p.data.toList = ((holdP P key value).1, key, 0, (holdP P key value).2)) := by rw [HST.out, if_neg (fun h => h rfl)]; exact Lib.hid rfl
    obtain ⟨H, hH⟩ : ∃ H, holdP P key value = H := ⟨_, rfl⟩
    have hHeq := hH
    go_wp2_with fail
    refine HH.out.mono ?_
    rintro e w5 ⟨Q, t5, p5, o5, m5, rfl, r1, r2, r3, r4, r5⟩
    have R3 := Lib.hid r3
    have fx := FIN.out w5 Q t5 p5 o5 m5 (N + 1) r1 r2 (Nat.le_refl _) (H3'.out.trans r4) (H4'.out.trans r5)
    obtain ⟨c37, f37, V, hV, c38, f38, U, hU, HF⟩ := fx
    obtain ⟨H2v, hH2⟩ : ∃ H2v, (holdP P key value).2 = H2v := ⟨_, rfl⟩
    have HH2 := Lib.hid hH2
    rw [hH2]
    clear r1 r2 r3 r4 r5 HH hH hHeq hH2
    go_wp2
    go_ret2
    exact ⟨Q, t5, p5, o5, m5, n + 1, key, by rw [HST2.out]; show _ = Ending.returned (.tuple #[.int .i64 0, .int .i64 (holdP P key value).2]); rw [HH2.out]; rfl, HF.out.1, HF.out.2.1, (fun h => by rw [HST2.out] at h ⊢; exact ⟨R3.out h, rfl, rfl⟩), HF.out.2.2.1, HF.out.2.2.2⟩
  · have hE0' : (E == 0) = false := by simpa using hE0
    have HST2 : Hid (stepP P n last p.data.toList = (P, ⟨#[]⟩, 0, E)) := by rw [HST.out, if_pos hE0]; exact Lib.hid rfl
    have HNE := Lib.hid hE0
    have fx := FIN.out w4 P tv pv ov mv N H1'.out H2'.out (Nat.le_succ N) H3'.out H4'.out
    obtain ⟨c37, f37, V, hV, c38, f38, U, hU, HF⟩ := fx
    clear hE0
    go_wp2
    go_ret2
    exact ⟨P, tv, pv, ov, mv, n + 1, key, by rw [HST2.out]; rfl, HF.out.1, HF.out.2.1, (fun h => by rw [HST2.out] at h; exact absurd h HNE.out), HF.out.2.2.1, HF.out.2.2.2⟩

end Go.Proofs.YtdfiblaboddbjaaGreatDoor.Prs
