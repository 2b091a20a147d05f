/-
  The document's part.
-/
import Derived.Test.YtdfiblaboddbjaaDoorMagPrsJ
namespace Go.Proofs.YtdfiblaboddbjaaDoor.Prs
open Go.RowKit Go.Proofs.YtdfiblaboddbjaaDoor.Base Go.Proofs.YtdfiblaboddbjaaDoor.Rep Go.Proofs.YtdfiblaboddbjaaDoor.Mag Go.Proofs.YtdfiblaboddbjaaDoor.Has
set_option linter.unusedVariables false
set_option linter.unusedSimpArgs false

theorem plc_range (l : List UInt8) (c : Nat) : plc l c = -1 ∨ ∃ m, m < l.length ∧ plc l c = (m : Int) := by
  unfold plc
  cases h : l.findIdx? (fun b => b.toNat == c) with
  | none => left; rfl
  | some i =>
    right
    exact ⟨i, (List.findIdx?_eq_some_iff_getElem.1 h).1, rfl⟩
theorem une_len : ∀ (n : Nat) (l : List UInt8) (i : Nat) (r : List UInt8), l.length ≤ n → une i l = .ok r → r.length ≤ l.length
  | _, [], i, r, _, h => by simp [une] at h; subst h; simp
  | 0, c :: l, i, r, hn, h => by simp at hn
  | n + 1, c :: l, i, r, hn, h => by
    by_cases hb : bareB c.toNat = true
    · rw [une_bare i c l hb] at h
      cases hu : une (i + 1) l with
      | error e => rw [hu] at h; cases h
      | ok r' =>
        rw [hu] at h
        injection h with h
        subst h
        have := une_len n l (i + 1) r' (by simp at hn; omega) hu
        simp; omega
    · have hb' : bareB c.toNat = false := by simpa using hb
      match l, hn, h with
      | [], hn, h => rw [une_short i c [] hb' (by simp)] at h; cases h
      | [x], hn, h => rw [une_short i c [x] hb' (by simp)] at h; cases h
      | x :: y :: l', hn, h =>
        rw [une_long i c x y l' hb'] at h
        split at h
        · split at h
          · cases h
          · cases hu : une (i + 3) l' with
            | error e => rw [hu] at h; cases h
            | ok r' =>
              rw [hu] at h
              injection h with h
              subst h
              have := une_len n l' (i + 3) r' (by simp at hn; omega) hu
              simp; omega
        · cases h

theorem une_err : ∀ (n : Nat) (l : List UInt8) (i j : Nat), l.length ≤ n → une i l = .error j → j ≤ i + l.length
  | _, [], i, j, _, h => by simp [une] at h
  | 0, c :: l, i, j, hn, h => by simp at hn
  | n + 1, c :: l, i, j, hn, h => by
    by_cases hb : bareB c.toNat = true
    · rw [une_bare i c l hb] at h
      cases hu : une (i + 1) l with
      | ok r' => rw [hu] at h; cases h
      | error e =>
        rw [hu] at h
        injection h with h
        subst h
        have := une_err n l (i + 1) e (by simp at hn; omega) hu
        simp; omega
    · have hb' : bareB c.toNat = false := by simpa using hb
      match l, hn, h with
      | [], hn, h => rw [une_short i c [] hb' (by simp)] at h; injection h with h; omega
      | [x], hn, h => rw [une_short i c [x] hb' (by simp)] at h; injection h with h; omega
      | x :: y :: l', hn, h =>
        rw [une_long i c x y l' hb'] at h
        split at h
        · split at h
          · injection h with h; omega
          · cases hu : une (i + 3) l' with
            | ok r' => rw [hu] at h; cases h
            | error e =>
              rw [hu] at h
              injection h with h
              subst h
              have := une_err n l' (i + 3) e (by simp at hn; omega) hu
              simp; omega
        · injection h with h; omega

theorem stepP_a {P : Pk} {n : Nat} {last : ByteArray} {l : List UInt8} (h : plc l 61 < 1) : stepP P n last l = (P, ⟨#[]⟩, 0, 226) := by unfold stepP; rw [if_pos h]
theorem stepP_b {P : Pk} {n m i : Nat} {last : ByteArray} {l : List UInt8} (h : plc l 61 = (m : Int)) (hm : 1 ≤ m) (hu : une 0 (l.take m) = .error i) : stepP P n last l = (P, ⟨#[]⟩, (i : Int), 222) := by
  unfold stepP; rw [if_neg (by omega), h, Int.toNat_natCast, hu]
theorem stepP_c {P : Pk} {n m i : Nat} {last : ByteArray} {l kl : List UInt8} (h : plc l 61 = (m : Int)) (hm : 1 ≤ m) (hu : une 0 (l.take m) = .ok kl) (hv : une 0 (l.drop (m + 1)) = .error i) : stepP P n last l = (P, ⟨#[]⟩, (m : Int) + 1 + i, 222) := by
  unfold stepP; rw [if_neg (by omega), h, Int.toNat_natCast, hu]; simp only [hv]
theorem stepP_d {P : Pk} {n m : Nat} {last : ByteArray} {l kl vl : List UInt8} (h : plc l 61 = (m : Int)) (hm : 1 ≤ m) (hu : une 0 (l.take m) = .ok kl) (hv : une 0 (l.drop (m + 1)) = .ok vl) :
    stepP P n last l = if placeE P n last ⟨kl.toArray⟩ ⟨vl.toArray⟩ ≠ 0 then (P, ⟨#[]⟩, 0, placeE P n last ⟨kl.toArray⟩ ⟨vl.toArray⟩) else ((holdP P ⟨kl.toArray⟩ ⟨vl.toArray⟩).1, ⟨kl.toArray⟩, 0, (holdP P ⟨kl.toArray⟩ ⟨vl.toArray⟩).2) := by
  unfold stepP; rw [if_neg (by omega), h, Int.toNat_natCast, hu]; simp only [hv]
theorem kind0 (s : ByteArray) : kindI s = 0 ↔ s = ⟨#[120, 116]⟩ := by
  unfold kindI
  constructor
  · intro h
    by_cases e : s = ⟨#[120, 116]⟩
    · exact e
    · rw [if_neg e] at h
      repeat' split at h
      all_goals omega
  · intro h; rw [if_pos h]
theorem placeE_other {P : Pk} {n : Nat} {last key value : ByteArray} (hk : kindI key ≠ 0) (hn : n ≠ 0) : placeE P n last key value = orderE P.trackers P.peers last key value := by
  unfold placeE orderE
  rw [if_neg (fun h => hn h.1), if_neg hk]
theorem placeE_first {P : Pk} {last key value : ByteArray} (hk : kindI key ≠ 0) : placeE P 0 last key value = 223 := by
  unfold placeE; rw [if_pos ⟨rfl, hk⟩]
theorem placeE_xt {P : Pk} {n : Nat} {last key value : ByteArray} (hk : kindI key = 0) : placeE P n last key value = if oldHash.isPrefixOf value.data.toList = true then 224 else if 0 < n then 225 else 0 := by
  unfold placeE; rw [if_neg (fun h => h.2 hk), if_pos hk]

def infoP (P : Pk) : Option (List UInt8) → Pk × Int
  | some h => ({ P with info := h }, 0)
  | none => (P, 223)

/-- What a part's call hands back. -/
def PartPost (B N : Nat) (P : Pk) (n : Nat) (last : ByteArray) (l : List UInt8) (w : World) (e : Ending) (w' : World) : Prop :=
  (∃ (Q : Pk) (tv' pv' ov' mv' : Value) (key' : ByteArray), e = .returned (.tuple #[.agg (lcells Q.lk tv' pv' ov' mv').toArray, .string key', .int .i64 (stepP P n last l).2.2.1, .int .i64 (stepP P n last l).2.2.2]) ∧ OL w' B (N + 1) Q tv' pv' ov' mv' ∧
    ((stepP P n last l).2.2.2 = 0 → Q = (stepP P n last l).1 ∧ key' = (stepP P n last l).2.1)) ∧ Below B w w' ∧ KeptT w w'

theorem info_part {X : Lk} (hi : X.info.length = 32) (tv pv ov mv : Value) (h : List UInt8) (hh : h.length = 32) : (hcells h) ++ (lcells X tv pv ov mv).drop 32 = lcells { X with info := h } tv pv ov mv := by
  simp [lcells, hcells, hi]

set_option maxHeartbeats 16000000 in
set_option maxRecDepth 100000 in
theorem rpart (P : Pk) (tv pv ov mv : Value) (n : Nat) (last p : ByteArray) (B N : Nat) (w : World) (hO : OL w B N P tv pv ov mv) (hB : B ≤ w.heap.size) (hN : N ≤ 100000) (hn : n ≤ 1048576) (hps : p.size ≤ 1048576) :
    Calls Tryd.prog 43 #[.agg (lcells P.lk tv pv ov mv).toArray, .int .i64 (n : Int), .string last, .string p] w (PartPost B N P n last p.data.toList w) := by
  have hi : P.lk.info.length = 32 := hO.info
  have hB0 : Below w.heap.size w ((w.alloc (.cells (lcells P.lk tv pv ov mv).toArray 28)).alloc (.cells Twin.zeroL 28)) := ((Below.refl _ _).alloc (Nat.le_refl _) _).alloc (by simp) _
  have hA : Lb ((w.alloc (.cells (lcells P.lk tv pv ov mv).toArray 28)).alloc (.cells Twin.zeroL 28)) w.heap.size 28 P.lk tv pv ov mv := heap_alloc2_old w _ _
  have hZ := heap_alloc2_new w (.cells (lcells P.lk tv pv ov mv).toArray 28) (.cells Twin.zeroL 28)
  obtain ⟨W0, hW0⟩ : ∃ W0, (w.alloc (.cells (lcells P.lk tv pv ov mv).toArray 28)).alloc (.cells Twin.zeroL 28) = W0 := ⟨_, rfl⟩
  have hz0 : W0.heap.size = w.heap.size + 2 := by rw [← hW0]; simp
  rw [hW0] at hB0 hA hZ
  have HA := Lib.hid hA
  have HZ := Lib.hid hZ
  have HI := Lib.hid hi
  have HO := Lib.hid (hO.below hB0)
  have HB0 := Lib.hid hB0
  have HBB : Hid (Below B w W0) := hB0.mono hB
  have HK0 : Hid (KeptT w W0) := KeptT.of_below hB0
  have HZ0 := Lib.hid hz0
  have fin : ∀ (w5 : World) (Q : Pk) (t5 p5 o5 m5 : Value), OL w5 B (N + 1) Q t5 p5 o5 m5 → w5.heap[w.heap.size + 1]? = some (.cells Twin.zeroL 28 (0, 0)) → Below B w w5 → KeptT w w5 →
      ∃ w6, (storeCells ⟨w.heap.size + 1, 0, none⟩ (lcells Q.lk t5 p5 o5 m5)).run Tryd.prog w5 = .ok () w6 ∧ Hid (Lb w6 (w.heap.size + 1) 28 Q.lk t5 p5 o5 m5) ∧ Hid (OL w6 B (N + 1) Q t5 p5 o5 m5) ∧ Hid (Below B w w6) ∧ Hid (KeptT w w6) := by
    intro w5 Q t5 p5 o5 m5 h1 h3 h4 h5
    refine ⟨_, h1.store w5 _ _ rfl h3, ?_, ?_, ?_, ?_⟩
    · exact setRow_heap _ _ _ _ _ _ h3
    · exact h1.turn (grown_setRow _ _ _) h3 (by decide) (by decide) (by decide)
    · exact Below.turn h4 (grown_setRow _ _ _) (by omega) (by have := h4.size; omega)
    · exact h5.turn (grown_setRow _ _ _) (by omega)
  have FIN := Lib.hid fin
  have hll : ∀ (Q : Pk) (t5 p5 o5 m5 : Value), Q.info.length = 32 → (lcells Q.lk t5 p5 o5 m5).length = 37 := fun Q t5 p5 o5 m5 h => lcells_length (X := Q.lk) h _ _ _ _
  have hl0 := hll P tv pv ov mv hO.info
  have HLL := Lib.hid hll
  have HOW := Lib.hid hO
  clear hA hZ hi hO hB0 fin hll hz0
  have hpl : p.data.toList.length = p.size := by simp
  go_enter Tryd.func43, Tryd.ntmps43
  go_wp2_with fail
  refine (rplace p 61 W0 (by omega)).mono ?_
  rintro e w1 ⟨rfl, rfl⟩
  rcases plc_range p.data.toList 61 with hq | ⟨m, hm, hq⟩
  · have HST : Hid (stepP P n last p.data.toList = (P, ⟨#[]⟩, 0, 226)) := stepP_a (by omega)
    rw [hq]
    clear hq
    obtain ⟨w6, hs6, HL6, HO6, HB6, HK6⟩ := FIN.out W0 P tv pv ov mv (HO.out.more (Nat.le_succ N)) HZ.out HBB.out HK0.out
    have HS6 := Lib.hid (sizeLQ (X := P.lk) HI.out tv pv ov mv)
    go_wp2_with (refine wpList_load_row rfl 28 _ rfl w.heap.size rfl 28 (lcells P.lk tv pv ov mv).toArray (0, 0) _ HA.out Tryd.underlying28 rfl HS6.out ?_)
    refine bodyPost_ret (results_row3 rfl rfl HL6.out Tryd.underlying28 rfl HS6.out) rfl ⟨⟨P, tv, pv, ov, mv, _, by rw [HST.out]; rfl, HO6.out, by rw [HST.out]; intro h; cases h⟩, HB6.out, HK6.out⟩
  rw [hpl] at hm
  by_cases hm0 : m = 0
  · have HST : Hid (stepP P n last p.data.toList = (P, ⟨#[]⟩, 0, 226)) := stepP_a (by omega)
    subst hm0
    rw [hq]
    clear hq
    obtain ⟨w6, hs6, HL6, HO6, HB6, HK6⟩ := FIN.out W0 P tv pv ov mv (HO.out.more (Nat.le_succ N)) HZ.out HBB.out HK0.out
    have HS6 := Lib.hid (sizeLQ (X := P.lk) HI.out tv pv ov mv)
    go_wp2_with (refine wpList_load_row rfl 28 _ rfl w.heap.size rfl 28 (lcells P.lk tv pv ov mv).toArray (0, 0) _ HA.out Tryd.underlying28 rfl HS6.out ?_)
    refine bodyPost_ret (results_row3 rfl rfl HL6.out Tryd.underlying28 rfl HS6.out) rfl ⟨⟨P, tv, pv, ov, mv, _, by rw [HST.out]; rfl, HO6.out, by rw [HST.out]; intro h; cases h⟩, HB6.out, HK6.out⟩
  have hm1 : 1 ≤ m := by omega
  have hm2 : ¬ (m : Int) < 1 := by omega
  have hm3 : (0 : Int) ≤ (m : Int) := by omega
  have hm4 : (m : Int) ≤ (p.size : Int) := by omega
  have hm5 : (m : Int) + 1 ≤ (p.size : Int) := by omega
  have hm6 : (0 : Int) ≤ (m : Int) + 1 := by omega
  have HQ := Lib.hid hq
  rw [hq]
  clear hq
  have hx1 : (p.extract 0 m).data.toList = p.data.toList.take m := by simp [ByteArray.data_extract]
  have hx2 : (p.extract (m + 1) p.size).data.toList = p.data.toList.drop (m + 1) := by
    simp [ByteArray.data_extract]
    rw [List.take_of_length_le (by simp)]
  have hc1 := runescape (p.extract 0 m) W0 (by simp [ByteArray.size_extract]; omega)
  rw [hx1] at hc1
  have hc2 : ∀ w2, Calls Tryd.prog 70 #[.string (p.extract (m + 1) p.size)] w2 fun e w' => e = .returned (uneV (une 0 (p.data.toList.drop (m + 1)))) ∧ Below w2.heap.size w2 w' := fun w2 => by
    have := runescape (p.extract (m + 1) p.size) w2 (by simp [ByteArray.size_extract]; omega)
    rw [hx2] at this
    exact this
  have HC1 := Lib.hid hc1
  have HC2 := Lib.hid hc2
  clear hc1 hc2 hx1 hx2
  go_wp2_with fail
  refine HC1.out.mono ?_
  rintro e w2 ⟨rfl, hb2⟩
  have HA2 : Hid (Lb w2 w.heap.size 28 P.lk tv pv ov mv) := HA.out.below hb2
  have HZ2 : Hid (w2.heap[w.heap.size + 1]? = some (.cells Twin.zeroL 28 (0, 0))) := (hb2.block _ (by have := HB0.out.size; have := HZ.out; exact (Array.getElem?_eq_some_iff.1 this).1)).trans HZ.out
  have HO2 : Hid (OL w2 B N P tv pv ov mv) := HO.out.below hb2
  have HBB2 : Hid (Below B w w2) := HBB.out.trans (hb2.mono (by have := HBB.out.size; omega))
  have HK2 : Hid (KeptT w w2) := HK0.out.trans (KeptT.of_below hb2)
  have HB02 : Hid (Below w.heap.size w w2) := HB0.out.trans (hb2.mono HB0.out.size)
  clear hb2
  cases hu : une 0 (p.data.toList.take m) with
  | error i =>
    have HST : Hid (stepP P n last p.data.toList = (P, ⟨#[]⟩, (i : Int), 222)) := stepP_b HQ.out hm1 hu
    clear hu
    unfold uneV
    have hi0 : (0 : Int) ≤ (i : Int) := by omega
    obtain ⟨w6, hs6, HL6, HO6, HB6, HK6⟩ := FIN.out w2 P tv pv ov mv (HO2.out.more (Nat.le_succ N)) HZ2.out HBB2.out HK2.out
    have HS6 := Lib.hid (sizeLQ (X := P.lk) HI.out tv pv ov mv)
    go_wp2_with (refine wpList_load_row rfl 28 _ rfl w.heap.size rfl 28 (lcells P.lk tv pv ov mv).toArray (0, 0) _ HA2.out Tryd.underlying28 rfl HS6.out ?_)
    refine bodyPost_ret (results_row3 rfl rfl HL6.out Tryd.underlying28 rfl HS6.out) rfl ⟨⟨P, tv, pv, ov, mv, _, by rw [HST.out]; rfl, HO6.out, by rw [HST.out]; intro h; cases h⟩, HB6.out, HK6.out⟩
  | ok kl =>
  have hkl : kl.length ≤ 1048576 := by
    have := une_len _ _ _ _ (Nat.le_refl _) hu
    simp at this; omega
  have HU := Lib.hid hu
  clear hu
  unfold uneV
  go_wp2_with fail
  refine (HC2.out w2).mono ?_
  rintro e w3 ⟨rfl, hb3⟩
  have HA3 : Hid (Lb w3 w.heap.size 28 P.lk tv pv ov mv) := HA2.out.below hb3
  have HZ3 : Hid (w3.heap[w.heap.size + 1]? = some (.cells Twin.zeroL 28 (0, 0))) := (hb3.block _ (by have := HB02.out.size; have := HZ2.out; exact (Array.getElem?_eq_some_iff.1 this).1)).trans HZ2.out
  have HO3 : Hid (OL w3 B N P tv pv ov mv) := HO2.out.below hb3
  have HBB3 : Hid (Below B w w3) := HBB2.out.trans (hb3.mono (by have := HBB2.out.size; omega))
  have HK3 : Hid (KeptT w w3) := HK2.out.trans (KeptT.of_below hb3)
  have HB03 : Hid (Below w.heap.size w w3) := HB02.out.trans (hb3.mono HB02.out.size)
  clear hb3
  cases hv : une 0 (p.data.toList.drop (m + 1)) with
  | error i =>
    have HST : Hid (stepP P n last p.data.toList = (P, ⟨#[]⟩, (m : Int) + 1 + i, 222)) := stepP_c HQ.out hm1 HU.out hv
    have hil : i ≤ 1099511627776 := by
      have := une_err _ _ _ _ (Nat.le_refl _) hv
      simp at this; omega
    clear hv
    unfold uneV
    have hi0 : (0 : Int) ≤ (i : Int) := by omega
    obtain ⟨w6, hs6, HL6, HO6, HB6, HK6⟩ := FIN.out w3 P tv pv ov mv (HO3.out.more (Nat.le_succ N)) HZ3.out HBB3.out HK3.out
    have HS6 := Lib.hid (sizeLQ (X := P.lk) HI.out tv pv ov mv)
    go_wp2_with (refine wpList_load_row rfl 28 _ rfl w.heap.size rfl 28 (lcells P.lk tv pv ov mv).toArray (0, 0) _ HA3.out Tryd.underlying28 rfl HS6.out ?_)
    refine bodyPost_ret (results_row3 rfl rfl HL6.out Tryd.underlying28 rfl HS6.out) rfl ⟨⟨P, tv, pv, ov, mv, _, by rw [HST.out]; rfl, HO6.out, by rw [HST.out]; intro h; cases h⟩, HB6.out, HK6.out⟩
  | ok vl =>
  have hvl : vl.length ≤ 1048576 := by
    have := une_len _ _ _ _ (Nat.le_refl _) hv
    simp at this; omega
  have HV := Lib.hid hv
  clear hv
  have hEv : uneV (.ok vl) = .tuple #[.string ⟨vl.toArray⟩, .int .i64 (-1)] := rfl
  rw [hEv]
  have HST := Lib.hid (stepP_d (P := P) (n := n) (last := last) HQ.out hm1 HU.out HV.out)
  obtain ⟨key, hkey⟩ : ∃ key : ByteArray, (⟨kl.toArray⟩ : ByteArray) = key := ⟨_, rfl⟩
  obtain ⟨value, hvalue⟩ : ∃ value : ByteArray, (⟨vl.toArray⟩ : ByteArray) = value := ⟨_, rfl⟩
  have hks : key.size ≤ 1048576 := by rw [← hkey]; simpa [ByteArray.size] using hkl
  have hvs : value.size ≤ 1048576 := by rw [← hvalue]; simpa [ByteArray.size] using hvl
  rw [hkey, hvalue] at HST
  rw [hkey, hvalue]
  clear hkey hvalue HQ HU HV HC1 HC2 hkl hvl
  have hsb := str_beq key ⟨#[120, 116]⟩
  have hsb' : (key.toList == [120, 116]) = decide (key = ⟨#[120, 116]⟩) := by rw [← hsb, Lib.toList_data ⟨#[120, 116]⟩]
  clear hsb
  by_cases hxt : kindI key = 0
  · have hxt2 := (kind0 key).1 hxt
    rw [decide_eq_true hxt2] at hsb'
    have hPE := placeE_xt (P := P) (n := n) (last := last) (value := value) hxt
    have HXT := Lib.hid hxt
    clear hxt2 hxt
    by_cases hn0 : 0 < n
    · have hn1 : (0 : Int) < (n : Int) := by omega
      have hne : ((n : Int) == 0) = false := by simp; omega
      go_wp2_with fail
      refine (rstarts value ⟨#[117, 114, 110, 58, 98, 116, 105, 104, 58]⟩ w3).mono ?_
      rintro e w4 ⟨rfl, rfl⟩
      obtain ⟨pb, hpb⟩ : ∃ pb, preB (⟨#[117, 114, 110, 58, 98, 116, 105, 104, 58]⟩ : ByteArray).data.toList value = pb := ⟨_, rfl⟩
      have hpb' : oldHash.isPrefixOf value.data.toList = pb := hpb
      rw [hpb]
      rw [hpb'] at hPE
      have HPE := Lib.hid hPE
      clear hpb hpb' hPE
      cases pb with
      | true =>
        have HST : Hid (stepP P n last p.data.toList = (P, ⟨#[]⟩, 0, 224)) := by rw [HST.out, HPE.out]; simp [Hid]
        obtain ⟨w6, hs6, HL6, HO6, HB6, HK6⟩ := FIN.out w4 P tv pv ov mv (HO3.out.more (Nat.le_succ N)) HZ3.out HBB3.out HK3.out
        have HS6 := Lib.hid (sizeLQ (X := P.lk) HI.out tv pv ov mv)
        go_wp2_with (refine wpList_load_row rfl 28 _ rfl w.heap.size rfl 28 (lcells P.lk tv pv ov mv).toArray (0, 0) _ HA3.out Tryd.underlying28 rfl HS6.out ?_)
        refine bodyPost_ret (results_row3 rfl rfl HL6.out Tryd.underlying28 rfl HS6.out) rfl ⟨⟨P, tv, pv, ov, mv, _, by rw [HST.out]; rfl, HO6.out, by rw [HST.out]; intro h; cases h⟩, HB6.out, HK6.out⟩
      | false =>
      have HST : Hid (stepP P n last p.data.toList = (P, ⟨#[]⟩, 0, 225)) := by rw [HST.out, HPE.out]; simp [hn0, Hid]
      obtain ⟨w6, hs6, HL6, HO6, HB6, HK6⟩ := FIN.out w4 P tv pv ov mv (HO3.out.more (Nat.le_succ N)) HZ3.out HBB3.out HK3.out
      have HS6 := Lib.hid (sizeLQ (X := P.lk) HI.out tv pv ov mv)
      go_wp2_with (refine wpList_load_row rfl 28 _ rfl w.heap.size rfl 28 (lcells P.lk tv pv ov mv).toArray (0, 0) _ HA3.out Tryd.underlying28 rfl HS6.out ?_)
      refine bodyPost_ret (results_row3 rfl rfl HL6.out Tryd.underlying28 rfl HS6.out) rfl ⟨⟨P, tv, pv, ov, mv, _, by rw [HST.out]; rfl, HO6.out, by rw [HST.out]; intro h; cases h⟩, HB6.out, HK6.out⟩
    have hn2 : n = 0 := by omega
    subst hn2
    go_wp2_with fail
    refine (rstarts value ⟨#[117, 114, 110, 58, 98, 116, 105, 104, 58]⟩ w3).mono ?_
    rintro e w4 ⟨rfl, rfl⟩
    obtain ⟨pb, hpb⟩ : ∃ pb, preB (⟨#[117, 114, 110, 58, 98, 116, 105, 104, 58]⟩ : ByteArray).data.toList value = pb := ⟨_, rfl⟩
    have hpb' : oldHash.isPrefixOf value.data.toList = pb := hpb
    rw [hpb]
    rw [hpb'] at hPE
    have HPE := Lib.hid hPE
    clear hpb hpb' hPE
    cases pb with
    | true =>
      have HST : Hid (stepP P 0 last p.data.toList = (P, ⟨#[]⟩, 0, 224)) := by rw [HST.out, HPE.out]; simp [Hid]
      obtain ⟨w6, hs6, HL6, HO6, HB6, HK6⟩ := FIN.out w4 P tv pv ov mv (HO3.out.more (Nat.le_succ N)) HZ3.out HBB3.out HK3.out
      have HS6 := Lib.hid (sizeLQ (X := P.lk) HI.out tv pv ov mv)
      go_wp2_with (refine wpList_load_row rfl 28 _ rfl w.heap.size rfl 28 (lcells P.lk tv pv ov mv).toArray (0, 0) _ HA3.out Tryd.underlying28 rfl HS6.out ?_)
      refine bodyPost_ret (results_row3 rfl rfl HL6.out Tryd.underlying28 rfl HS6.out) rfl ⟨⟨P, tv, pv, ov, mv, _, by rw [HST.out]; rfl, HO6.out, by rw [HST.out]; intro h; cases h⟩, HB6.out, HK6.out⟩
    | false =>
    obtain ⟨V, hV⟩ : ∃ V, firstH value.data.toList = V := ⟨_, rfl⟩
    have hVl : (firstV V).length = 32 := by rw [← hV]; exact firstV_len _
    have hST : stepP P 0 last p.data.toList = ((holdP P key value).1, key, 0, (holdP P key value).2) := by rw [HST.out, HPE.out]; simp
    have hHP : holdP P key value = infoP P V := by
      unfold holdP; rw [if_pos HXT.out, hV]; cases V <;> rfl
    have hfc := rfirst value w4 hvs
    rw [hV] at hfc
    have HFC := Lib.hid hfc
    have HSTT := Lib.hid hST
    have HHP := Lib.hid hHP
    clear hST hHP hfc hV HST HPE
    go_wp2_with fail
    refine HFC.out.mono ?_
    rintro e w5 ⟨rfl, hb5⟩
    have HA5 : Hid (Lb w5 w.heap.size 28 P.lk tv pv ov mv) := HA3.out.below hb5
    have HZ5 : Hid (w5.heap[w.heap.size + 1]? = some (.cells Twin.zeroL 28 (0, 0))) := (hb5.block _ (by have := HB03.out.size; have := HZ3.out; exact (Array.getElem?_eq_some_iff.1 this).1)).trans HZ3.out
    have HO5 : Hid (OL w5 B N P tv pv ov mv) := HO3.out.below hb5
    have HBB5 : Hid (Below B w w5) := HBB3.out.trans (hb5.mono (by have := HBB3.out.size; omega))
    have HK5 : Hid (KeptT w w5) := HK3.out.trans (KeptT.of_below hb5)
    have HB05 : Hid (Below w.heap.size w w5) := HB03.out.trans (hb5.mono HB03.out.size)
    clear hb5
    -- the hash's own variable
    have hr7 := setRow_new w5 zeroH 23 (hcells (firstV V)).toArray
    have hs7 := run_storeCells_list (P := Tryd.prog) (w5.alloc (.cells zeroH 23)) w5.heap.size 23 zeroH (hcells (firstV V)) (Go.heap_alloc_new _ _) (by simp [hcells, hVl]) (hcells_one _)
    obtain ⟨W7, hW7⟩ : ∃ W7, (w5.alloc (.cells zeroH 23)).setRow w5.heap.size (hcells (firstV V)).toArray = W7 := ⟨_, rfl⟩
    rw [hW7] at hs7 hr7
    have hb7 := hr7.2.1
    have HH7 : Hid (Hb W7 w5.heap.size (firstV V)) := ⟨hVl, hr7.1⟩
    have hll7 : (hcells (firstV V)).length = 32 := by simp [hcells, hVl]
    have HSH := Lib.hid (sizeH hVl)
    clear hr7
    have HA7 : Hid (Lb W7 w.heap.size 28 P.lk tv pv ov mv) := HA5.out.below hb7
    have HZ7 : Hid (W7.heap[w.heap.size + 1]? = some (.cells Twin.zeroL 28 (0, 0))) := (hb7.block _ (by have := HB05.out.size; have := HZ5.out; exact (Array.getElem?_eq_some_iff.1 this).1)).trans HZ5.out
    have HO7 : Hid (OL W7 B N P tv pv ov mv) := HO5.out.below hb7
    have HBB7 : Hid (Below B w W7) := HBB5.out.trans (hb7.mono (by have := HBB5.out.size; omega))
    have HK7 : Hid (KeptT w W7) := HK5.out.trans (KeptT.of_below hb7)
    have HB07 : Hid (Below w.heap.size w W7) := HB05.out.trans (hb7.mono HB05.out.size)
    clear hb7
    -- the link's infohash
    have hs8 := run_storeCells_at Tryd.prog w.heap.size 0 28 (hcells (firstV V)) 0 (lcells P.lk tv pv ov mv).toArray W7 HA7.out (by simp [hll7, hl0]) (hcells_one _)
    simp only [Nat.add_zero, Nat.zero_add, List.take_zero, List.nil_append, hll7] at hs8
    have hcut : (List.drop 32 (lcells P.lk tv pv ov mv)) = (lcells P.lk tv pv ov mv).drop 32 := rfl
    obtain ⟨W8, hW8⟩ : ∃ W8, W7.setRow w.heap.size (hcells (firstV V) ++ (lcells P.lk tv pv ov mv).drop 32).toArray = W8 := ⟨_, rfl⟩
    have hL8 : Lb W8 w.heap.size 28 ({ P with info := firstV V } : Pk).lk tv pv ov mv := by
      rw [← hW8, info_part HI.out tv pv ov mv (firstV V) hVl]
      exact setRow_heap _ _ _ _ _ _ HA7.out
    have hg8 : W7.grownBy W8 (some w.heap.size) := hW8 ▸ grown_setRow _ _ _
    have HZ8 : Hid (W8.heap[w.heap.size + 1]? = some (.cells Twin.zeroL 28 (0, 0))) := (hg8.block _ ((Array.getElem?_eq_some_iff.1 HZ7.out).1) (by simp)).trans HZ7.out
    have HO8 : Hid (OL W8 B (N + 1) ({ P with info := firstV V } : Pk) tv pv ov mv) := by
      have h1 := (HO7.out.turn hg8 HA7.out (by decide) (by decide) (by decide)).more (Nat.le_succ N)
      exact ⟨hVl, h1.name, h1.tr, h1.pe, h1.on, h1.mo, h1.tp, h1.cnt, h1.trs, h1.pes, h1.mos, h1.who⟩
    have HB8 : Hid (Below B w W8) := Below.turn HBB7.out hg8 hB (by have := HBB7.out.size; omega)
    have HK8 : Hid (KeptT w W8) := HK7.out.turn hg8 (Nat.le_refl _)
    have HL8 := Lib.hid hL8
    clear hL8 hg8 hcut
    simp only [hW8] at hs8
    have HH8 := HH7
    obtain ⟨w6, hs6, HL6, HO6, HB6, HK6⟩ := FIN.out W8 ({ P with info := firstV V } : Pk) tv pv ov mv HO8.out HZ8.out HB8.out HK8.out
    have HS6 := Lib.hid (sizeLQ (X := ({ P with info := firstV V } : Pk).lk) hVl tv pv ov mv)
    have hl8 := HLL.out ({ P with info := firstV V } : Pk) tv pv ov mv hVl
    go_wp2_with (first
      | (refine wpList_load_row rfl 23 _ rfl w5.heap.size rfl 23 (hcells (firstV V)).toArray (0, 0) _ HH7.out.2 Tryd.underlying23 rfl HSH.out ?_)
      | (refine wpList_load_row rfl 28 _ rfl w.heap.size rfl 28 (lcells ({ P with info := firstV V } : Pk).lk tv pv ov mv).toArray (0, 0) _ HL8.out Tryd.underlying28 rfl HS6.out ?_))
    refine bodyPost_ret (results_row3 rfl rfl HL6.out Tryd.underlying28 rfl HS6.out) rfl ⟨⟨_, tv, pv, ov, mv, _, by rw [HSTT.out, HHP.out]; cases V <;> rfl, HO6.out, by rw [HSTT.out, HHP.out]; cases V <;> intro h <;> first | (cases h; done) | exact ⟨rfl, rfl⟩⟩, HB6.out, HK6.out⟩
  · have hxt2 : ¬ key = ⟨#[120, 116]⟩ := fun e => hxt ((kind0 key).2 e)
    rw [decide_eq_false hxt2] at hsb'
    have HXT := Lib.hid hxt
    clear hxt2 hxt
    by_cases hn0 : n = 0
    · subst hn0
      have HST : Hid (stepP P 0 last p.data.toList = (P, ⟨#[]⟩, 0, 223)) := by rw [HST.out, placeE_first HXT.out]; simp [Hid]
      obtain ⟨w6, hs6, HL6, HO6, HB6, HK6⟩ := FIN.out w3 P tv pv ov mv (HO3.out.more (Nat.le_succ N)) HZ3.out HBB3.out HK3.out
      have HS6 := Lib.hid (sizeLQ (X := P.lk) HI.out tv pv ov mv)
      go_wp2_with (refine wpList_load_row rfl 28 _ rfl w.heap.size rfl 28 (lcells P.lk tv pv ov mv).toArray (0, 0) _ HA3.out Tryd.underlying28 rfl HS6.out ?_)
      refine bodyPost_ret (results_row3 rfl rfl HL6.out Tryd.underlying28 rfl HS6.out) rfl ⟨⟨P, tv, pv, ov, mv, _, by rw [HST.out]; rfl, HO6.out, by rw [HST.out]; intro h; cases h⟩, HB6.out, HK6.out⟩
    have hn1 : ((n : Int) == 0) = false := by simp; omega
    have hPE := placeE_other (P := P) (last := last) (value := value) HXT.out hn0
    obtain ⟨E, hE⟩ : ∃ E, orderE P.trackers P.peers last key value = E := ⟨_, rfl⟩
    have hoc := rordered P.lk tv pv ov mv last key value w3 HI.out (SS.of (HO3.out.trs' (by omega))) (SS.of (HO3.out.pes' (by omega))) HXT.out
    have hoc2 : orderE P.lk.trackers P.lk.peers last key value = E := hE
    rw [hoc2] at hoc
    rw [hE] at hPE
    have HOC := Lib.hid hoc
    have HPE := Lib.hid hPE
    have HS0 := Lib.hid (sizeLQ (X := P.lk) HI.out tv pv ov mv)
    clear hoc hoc2 hE hPE
    go_wp2_with (refine wpList_load_row rfl 28 _ rfl w.heap.size rfl 28 (lcells P.lk tv pv ov mv).toArray (0, 0) _ HA3.out Tryd.underlying28 rfl HS0.out ?_)
    refine HOC.out.mono ?_
    rintro e w5 ⟨rfl, hb5⟩
    have HA5 : Hid (Lb w5 w.heap.size 28 P.lk tv pv ov mv) := HA3.out.below hb5
    have HZ5 : Hid (w5.heap[w.heap.size + 1]? = some (.cells Twin.zeroL 28 (0, 0))) := (hb5.block _ (by have := HB03.out.size; have := HZ3.out; exact (Array.getElem?_eq_some_iff.1 this).1)).trans HZ3.out
    have HO5 : Hid (OL w5 B N P tv pv ov mv) := HO3.out.below hb5
    have HBB5 : Hid (Below B w w5) := HBB3.out.trans (hb5.mono (by have := HBB3.out.size; omega))
    have HK5 : Hid (KeptT w w5) := HK3.out.trans (KeptT.of_below hb5)
    have HB05 : Hid (Below w.heap.size w w5) := HB03.out.trans (hb5.mono HB03.out.size)
    clear hb5
    by_cases hE0 : E = 0
    · subst hE0
      have hST : stepP P n last p.data.toList = ((holdP P key value).1, key, 0, (holdP P key value).2) := by rw [HST.out, HPE.out]; simp
      have hjc := rjoined P tv pv ov mv key value B N w5 HO5.out (by have := HBB5.out.size; omega) hN HXT.out hks hvs
      have HJC := Lib.hid hjc
      have HSTT := Lib.hid hST
      clear hjc hST HST HPE
      go_wp2_with (refine wpList_load_row rfl 28 _ rfl w.heap.size rfl 28 (lcells P.lk tv pv ov mv).toArray (0, 0) _ HA5.out Tryd.underlying28 rfl HS0.out ?_)
      refine HJC.out.mono ?_
      rintro e w9 ⟨⟨t5, p5, o5, m5, rfl, hO9⟩, hb9, hk9⟩
      obtain ⟨Q, hQ⟩ : ∃ Q, (holdP P key value).1 = Q := ⟨_, rfl⟩
      obtain ⟨f, hf⟩ : ∃ f, (holdP P key value).2 = f := ⟨_, rfl⟩
      rw [hQ] at hO9
      rw [hQ, hf]
      have hST2 := HSTT.out
      rw [hQ, hf] at hST2
      have HST2 := Lib.hid hST2
      clear hST2 hQ hf HSTT
      have HZ9 : Hid (w9.heap[w.heap.size + 1]? = some (.cells Twin.zeroL 28 (0, 0))) := hk9.2 _ _ _ _ (by decide) (by decide) (by decide) HZ5.out
      have HB9 : Hid (Below B w w9) := HBB5.out.trans hb9
      have HK9 : Hid (KeptT w w9) := HK5.out.trans hk9
      have hr7 := setRow_new w9 Twin.zeroL 28 (lcells Q.lk t5 p5 o5 m5).toArray
      have hs7 := hO9.store (w9.alloc (.cells Twin.zeroL 28)) w9.heap.size Twin.zeroL rfl (Go.heap_alloc_new _ _)
      obtain ⟨W7, hW7⟩ : ∃ W7, (w9.alloc (.cells Twin.zeroL 28)).setRow w9.heap.size (lcells Q.lk t5 p5 o5 m5).toArray = W7 := ⟨_, rfl⟩
      rw [hW7] at hs7 hr7
      have HL7 : Hid (Lb W7 w9.heap.size 28 Q.lk t5 p5 o5 m5) := hr7.1
      have HO7 : Hid (OL W7 B (N + 1) Q t5 p5 o5 m5) := hO9.below hr7.2.1
      have HZ7 : Hid (W7.heap[w.heap.size + 1]? = some (.cells Twin.zeroL 28 (0, 0))) := (hr7.2.1.block _ ((Array.getElem?_eq_some_iff.1 HZ9.out).1)).trans HZ9.out
      have HB7 : Hid (Below B w W7) := HB9.out.trans (hr7.2.1.mono (by have := HB9.out.size; omega))
      have HK7 : Hid (KeptT w W7) := HK9.out.trans (KeptT.of_below hr7.2.1)
      have hQi : Q.lk.info.length = 32 := hO9.info
      have hl7 := HLL.out Q t5 p5 o5 m5 hO9.info
      have HQI := Lib.hid hQi
      clear hr7 hO9 hb9 hk9 hQi
      obtain ⟨w6, hs6, HL6, HO6, HB6, HK6⟩ := FIN.out W7 Q t5 p5 o5 m5 HO7.out HZ7.out HB7.out HK7.out
      have HS6 := Lib.hid (sizeLQ (X := Q.lk) HQI.out t5 p5 o5 m5)
      go_wp2_with (refine wpList_load_row rfl 28 _ rfl w9.heap.size rfl 28 (lcells Q.lk t5 p5 o5 m5).toArray (0, 0) _ HL7.out Tryd.underlying28 rfl HS6.out ?_)
      refine bodyPost_ret (results_row3 rfl rfl HL6.out Tryd.underlying28 rfl HS6.out) rfl ⟨⟨Q, t5, p5, o5, m5, _, by rw [HST2.out]; rfl, HO6.out, by rw [HST2.out]; intro h; exact ⟨rfl, rfl⟩⟩, HB6.out, HK6.out⟩
    · have HST : Hid (stepP P n last p.data.toList = (P, ⟨#[]⟩, 0, E)) := by rw [HST.out, HPE.out]; simp [hE0, Hid]
      have hE1 : (E == 0) = false := by simpa using hE0
      obtain ⟨w6, hs6, HL6, HO6, HB6, HK6⟩ := FIN.out w5 P tv pv ov mv (HO5.out.more (Nat.le_succ N)) HZ5.out HBB5.out HK5.out
      go_wp2_with (refine wpList_load_row rfl 28 _ rfl w.heap.size rfl 28 (lcells P.lk tv pv ov mv).toArray (0, 0) _ HA5.out Tryd.underlying28 rfl HS0.out ?_)
      refine bodyPost_ret (results_row3 rfl rfl HL6.out Tryd.underlying28 rfl HS0.out) rfl ⟨⟨P, tv, pv, ov, mv, _, by rw [HST.out]; rfl, HO6.out, by rw [HST.out]; intro h; exact absurd h hE0⟩, HB6.out, HK6.out⟩

end Go.Proofs.YtdfiblaboddbjaaDoor.Prs
