/-
  There and back, in plain Lean: escapes, digits, numbers, runs.
-/
import Derived.Test.YtdfiblaboddbjaaGreatDoorMagPgT
namespace Go.Proofs.YtdfiblaboddbjaaGreatDoor.Prs
open Go.RowKit Go.Proofs.YtdfiblaboddbjaaGreatDoor.Base Go.Proofs.YtdfiblaboddbjaaGreatDoor.Rep Go.Proofs.YtdfiblaboddbjaaGreatDoor.Mag Go.Proofs.YtdfiblaboddbjaaGreatDoor.Has
set_option linter.unusedVariables false
set_option linter.unusedSimpArgs false

/-! ### Escapes -/
theorem hexV_hexC (n : Nat) (h : n < 16) : hexV (hexC n) = (n : Int) := by
  have : ∀ m : Fin 16, hexV (hexC m.1) = (m.1 : Int) := by decide +kernel
  exact this ⟨n, h⟩
theorem hexC_hexV (c : UInt8) (h : 0 ≤ hexV c) : hexC (hexV c).toNat = c := by
  have : ∀ m : Fin 256, 0 ≤ hexV (UInt8.ofNat m.1) → hexC (hexV (UInt8.ofNat m.1)).toNat = UInt8.ofNat m.1 := by decide +kernel
  have h2 := this ⟨c.toNat, UInt8.toNat_lt c⟩
  simp only [UInt8.ofNat_toNat] at h2
  exact h2 h
theorem esc_bare {c : UInt8} (h : bareB c.toNat = true) : escB c = [c] := by unfold escB; rw [if_pos h]
theorem esc_pct {c : UInt8} (h : bareB c.toNat = false) : escB c = [37, hexC (c.toNat / 16), hexC (c.toNat % 16)] := by unfold escB; rw [if_neg (by rw [h]; simp)]
theorem une_escB (i : Nat) (c : UInt8) (r : List UInt8) : ∃ j, une i (escB c ++ r) = (une j r).map (c :: ·) := by
  cases h : bareB c.toNat with
  | true => exact ⟨i + 1, by rw [esc_bare h]; exact une_bare i c r h⟩
  | false =>
    have hc := UInt8.toNat_lt c
    refine ⟨i + 3, ?_⟩
    rw [esc_pct h]
    show une i (37 :: hexC (c.toNat / 16) :: hexC (c.toNat % 16) :: r) = _
    rw [une_long i 37 _ _ r (by decide), if_pos rfl, hexV_hexC _ (by omega), hexV_hexC _ (by omega)]
    have e : (((c.toNat / 16 : Nat) : Int) * 16 + ((c.toNat % 16 : Nat) : Int)).toNat = c.toNat := by omega
    rw [e, h, if_neg (by simp; omega)]
    simp
theorem une_esc : ∀ (l : List UInt8) (i : Nat), une i (escL l) = .ok l
  | [], i => rfl
  | c :: l, i => by
    obtain ⟨j, hj⟩ := une_escB i c (escL l)
    show une i (escB c ++ escL l) = _
    rw [hj, une_esc l j]; rfl
theorem esc_of_une : ∀ (n : Nat) (l : List UInt8) (i : Nat) (u : List UInt8), l.length ≤ n → une i l = .ok u → escL u = l
  | _, [], i, u, _, h => by
    have : u = [] := by simpa [une] using h.symm
    subst this; rfl
  | 0, c :: r, _, _, hn, _ => by simp at hn
  | n + 1, c :: r, i, u, hn, h => by
    have hn' : r.length ≤ n := by simpa using hn
    cases hb : bareB c.toNat with
    | true =>
      rw [une_bare i c r hb] at h
      cases hu : une (i + 1) r with
      | error e => rw [hu] at h; simp [Except.map] at h
      | ok u' =>
        rw [hu] at h
        simp only [Except.map, Except.ok.injEq] at h
        subst h
        show escB c ++ escL u' = _
        rw [esc_bare hb, esc_of_une n r (i + 1) u' hn' hu]; rfl
    | false =>
      match r, hn' with
      | [], _ => rw [une_short i c [] hb (by simp)] at h; cases h
      | [x], _ => rw [une_short i c [x] hb (by simp)] at h; cases h
      | x :: y :: r', hn' =>
        rw [une_long i c x y r' hb] at h
        by_cases h37 : c = 37
        · rw [if_pos h37] at h
          by_cases hbad : hexV x < 0 ∨ hexV y < 0 ∨ bareB (hexV x * 16 + hexV y).toNat = true
          · rw [if_pos hbad] at h; cases h
          · rw [if_neg hbad] at h
            obtain ⟨h1, h2⟩ := not_or.1 hbad
            obtain ⟨h2, h3⟩ := not_or.1 h2
            have hx := hexV_range x
            have hy := hexV_range y
            cases hu : une (i + 3) r' with
            | error e => rw [hu] at h; simp [Except.map] at h
            | ok u' =>
              rw [hu] at h
              simp only [Except.map, Except.ok.injEq] at h
              subst h
              have hv : (hexV x * 16 + hexV y).toNat < 256 := by omega
              have ht : (UInt8.ofNat (hexV x * 16 + hexV y).toNat).toNat = (hexV x * 16 + hexV y).toNat := UInt8.toNat_ofNat_of_lt' hv
              show escB _ ++ escL u' = _
              rw [esc_pct (by rw [ht]; simpa using h3), ht, esc_of_une n r' (i + 3) u' (by simp at hn'; omega) hu]
              rw [show (hexV x * 16 + hexV y).toNat / 16 = (hexV x).toNat by omega, show (hexV x * 16 + hexV y).toNat % 16 = (hexV y).toNat by omega, hexC_hexV x (by omega), hexC_hexV y (by omega), h37]
              rfl
        · rw [if_neg h37] at h; cases h
theorem hexC_bare (n : Nat) (h : n < 16) : bareB (hexC n).toNat = true := by
  have : ∀ m : Fin 16, bareB (hexC m.1).toNat = true := by decide +kernel
  exact this ⟨n, h⟩
theorem esc_mem {l : List UInt8} {c : UInt8} (h : c ∈ escL l) : bareB c.toNat = true ∨ c = 37 := by
  unfold escL at h
  obtain ⟨b, _, hb⟩ := List.mem_flatMap.1 h
  have hlt := UInt8.toNat_lt b
  cases hbb : bareB b.toNat with
  | true => rw [esc_bare hbb, List.mem_singleton] at hb; subst hb; exact Or.inl hbb
  | false =>
    rw [esc_pct hbb] at hb
    simp only [List.mem_cons, List.not_mem_nil, or_false] at hb
    rcases hb with rfl | rfl | rfl
    · exact Or.inr rfl
    · exact Or.inl (hexC_bare _ (by omega))
    · exact Or.inl (hexC_bare _ (by omega))
theorem esc_no {l : List UInt8} {c : UInt8} (h : bareB c.toNat = false) (h37 : c ≠ 37) : c ∉ escL l := fun hm => by
  rcases esc_mem hm with h1 | h1
  · rw [h] at h1; cases h1
  · exact h37 h1
theorem esc_self {l : List UInt8} (h : ∀ c ∈ l, bareB c.toNat = true) : escL l = l := by
  induction l with
  | nil => rfl
  | cons c l ih =>
    show escB c ++ escL l = _
    rw [esc_bare (h c List.mem_cons_self), ih fun d hd => h d (List.mem_cons_of_mem _ hd)]; rfl
theorem esc_app (a b : List UInt8) : escL (a ++ b) = escL a ++ escL b := by simp [escL]
theorem esc_inj {a b : List UInt8} (h : escL a = escL b) : a = b := by
  have h1 := une_esc a 0
  rw [h, une_esc b 0] at h1
  injection h1 with h1
  exact h1.symm
theorem esc_nil {a : List UInt8} : escL a = [] ↔ a = [] := ⟨fun h => esc_inj (b := []) h, fun h => by rw [h]; rfl⟩

/-! ### The digest's digits -/
theorem lowV_hx (n : Nat) (h : n < 16) : lowV (hx n) = n := by
  have : ∀ m : Fin 16, lowV (hx m.1) = m.1 := by decide +kernel
  exact this ⟨n, h⟩
theorem hx_lowV (c : UInt8) (h : lowV c ≠ 16) : hx (lowV c) = c := by
  have : ∀ m : Fin 256, lowV (UInt8.ofNat m.1) ≠ 16 → hx (lowV (UInt8.ofNat m.1)) = UInt8.ofNat m.1 := by decide +kernel
  have h2 := this ⟨c.toNat, UInt8.toNat_lt c⟩
  simp only [UInt8.ofNat_toNat] at h2
  exact h2 h
theorem unhex_hx : ∀ l : List UInt8, unhexL (hxL l) = some l
  | [] => rfl
  | c :: l => by
    have hc := UInt8.toNat_lt c
    show unhexL (hx (c.toNat / 16) :: hx (c.toNat % 16) :: hxL l) = _
    rw [unhexL, lowV_hx _ (by omega), lowV_hx _ (by omega), if_neg (by omega), unhex_hx l]
    have e : 16 * (c.toNat / 16) + c.toNat % 16 = c.toNat := by omega
    rw [e]; simp
theorem hx_unhex : ∀ (l h : List UInt8), unhexL l = some h → hxL h = l
  | [], h, e => by
    simp only [unhexL, Option.some.injEq] at e
    subst e; rfl
  | [_], h, e => by simp [unhexL] at e
  | a :: b :: r, h, e => by
    rw [unhexL] at e
    by_cases hb : lowV a = 16 ∨ lowV b = 16
    · rw [if_pos hb] at e; cases e
    · rw [if_neg hb] at e
      obtain ⟨h1, h2⟩ := not_or.1 hb
      cases hr : unhexL r with
      | none => rw [hr] at e; cases e
      | some t =>
        rw [hr] at e
        simp only [Option.map_some, Option.some.injEq] at e
        subst e
        have la := lowV_lt a
        have lb := lowV_lt b
        have ht : (UInt8.ofNat (16 * lowV a + lowV b)).toNat = 16 * lowV a + lowV b := UInt8.toNat_ofNat_of_lt' (by show _ < 256; omega)
        show hxB _ ++ hxL t = _
        unfold hxB
        rw [ht, show (16 * lowV a + lowV b) / 16 = lowV a by omega, show (16 * lowV a + lowV b) % 16 = lowV b by omega, hx_lowV a h1, hx_lowV b h2, hx_unhex r t hr]
        rfl
theorem hxL_len (l : List UInt8) : (hxL l).length = 2 * l.length := by
  induction l with
  | nil => rfl
  | cons c l ih => show (hxB c ++ hxL l).length = _; simp only [List.length_append, List.length_cons, ih]; simp [hxB]; omega
theorem hx_bare (n : Nat) (h : n < 16) : bareB (hx n).toNat = true := by
  have : ∀ m : Fin 16, bareB (hx m.1).toNat = true := by decide +kernel
  exact this ⟨n, h⟩
theorem hxL_bare {l : List UInt8} : ∀ c ∈ hxL l, bareB c.toNat = true := fun c hc => by
  obtain ⟨b, _, hb⟩ := List.mem_flatMap.1 hc
  have hlt := UInt8.toNat_lt b
  unfold hxB at hb
  simp only [List.mem_cons, List.not_mem_nil, or_false] at hb
  rcases hb with rfl | rfl
  · exact hx_bare _ (by omega)
  · exact hx_bare _ (by omega)

/-! ### Runs -/
def soJ : List (Int × Int) → List UInt8
  | [] => []
  | [r] => numR r
  | r :: s :: rs => numR r ++ 44 :: soJ (s :: rs)
theorem soJ_cons (r : Int × Int) (rs : List (Int × Int)) (h : rs ≠ []) : soJ (r :: rs) = numR r ++ 44 :: soJ rs := by
  cases rs with
  | nil => exact absurd rfl h
  | cons s rs => rfl
theorem soJ_snoc : ∀ (l : List (Int × Int)) (r : Int × Int), l ≠ [] → soJ (l ++ [r]) = soJ l ++ 44 :: numR r
  | [], _, h => absurd rfl h
  | [a], r, _ => rfl
  | a :: b :: l, r, _ => by
    have := soJ_snoc (b :: l) r (by simp)
    show soJ (a :: (b :: l ++ [r])) = _
    rw [soJ_cons _ _ (by simp), this, soJ_cons a (b :: l) (by simp)]; simp
theorem soK_eq (l : List (Int × Int)) : ∀ k, k ≤ l.length → soK l k = if k = 0 then [] else [38, 115, 111, 61] ++ soJ (l.take k)
  | 0, _ => rfl
  | k + 1, h => by
    have hk := soK_eq l k (by omega)
    have ht : l.take (k + 1) = l.take k ++ [l.getD k (0, 0)] := by
      rw [List.take_succ_eq_append_getElem (by omega)]
      simp [List.getD, List.getElem?_eq_getElem (show k < l.length by omega)]
    rw [soK, hk, if_neg (Nat.succ_ne_zero k), ht]
    by_cases h0 : k = 0
    · subst h0; rfl
    · rw [if_neg h0, if_neg h0, soJ_snoc _ _ (by
        intro e
        have h1 : (l.take k).length = k := by rw [List.length_take]; omega
        rw [e] at h1
        exact h0 h1.symm)]
      simp
theorem soK_all (l : List (Int × Int)) : soK l l.length = if l = [] then [] else [38, 115, 111, 61] ++ soJ l := by
  rw [soK_eq l _ (Nat.le_refl _), List.take_length]
  by_cases h : l = []
  · subst h; rfl
  · rw [if_neg h, if_neg (by intro e; exact h (List.length_eq_zero_iff.1 e))]

theorem itoa_dig {n : Nat} (h : n < 4096) : ∀ c ∈ Lib.itoa (n : Int), isDig c = true := by
  obtain ⟨_, _, h1, _⟩ := numS_some (numS_itoa h)
  exact List.all_eq_true.1 h1
theorem digs_itoa {n : Nat} (h : n < 4096) : digs (Lib.itoa (n : Int)) = Lib.itoa (n : Int) := digs_self (numS_itoa h)
theorem digs_minus (a r : List UInt8) : digs (a ++ 45 :: r) = digs a := tw_app 45 rfl r a 5

/-- A run is read as it is written. -/
theorem run1_num (r : Int × Int) (rest : List UInt8) (h0 : 0 ≤ r.1) (h1 : r.1 < 4096) (h2 : 1 ≤ r.2) (h3 : r.2 ≤ 4096 - r.1) (hr : rest = [] ∨ ∃ r, rest = 44 :: r) : run1 (numR r ++ rest) = some (r, rest) := by
  obtain ⟨a, k⟩ := r
  obtain ⟨n, rfl⟩ := Int.eq_ofNat_of_zero_le h0
  simp only at h1 h2 h3 ⊢
  have hn : n < 4096 := by omega
  unfold numR
  simp only
  by_cases hk : 1 < k
  · rw [if_pos hk]
    obtain ⟨m, hm⟩ : ∃ m : Nat, (n : Int) + k - 1 = (m : Int) := ⟨((n : Int) + k - 1).toNat, by omega⟩
    have hm4 : m < 4096 := by omega
    rw [hm, List.append_assoc]
    show run1 (Lib.itoa (n : Int) ++ 45 :: (Lib.itoa (m : Int) ++ rest)) = _
    unfold run1
    rw [digs_minus, digs_itoa hn, numS_itoa hn]
    simp only [List.drop_left, List.head?_cons, if_true, List.tail_cons]
    rw [digs_rest hr, digs_itoa hm4, numS_itoa hm4]
    simp only
    rw [if_neg (by omega), List.drop_left]
    congr 3
    omega
  · obtain rfl : k = 1 := by omega
    rw [if_neg hk, List.append_nil]
    unfold run1
    rw [digs_rest hr, digs_itoa hn, numS_itoa hn]
    simp only [List.drop_left]
    rw [if_neg (rest_head hr)]
theorem numR_ne (r : Int × Int) (h0 : 0 ≤ r.1) (h1 : r.1 < 4096) : numR r ≠ [] := by
  unfold numR
  obtain ⟨n, hn⟩ := Int.eq_ofNat_of_zero_le h0
  have : Lib.itoa r.1 ≠ [] := by
    rw [hn]
    obtain ⟨_, _, _, h, _⟩ := numS_some (numS_itoa (n := n) (by omega))
    exact h
  intro e
  exact this (List.append_eq_nil_iff.1 e).1
theorem runsF_so : ∀ (l : List (Int × Int)) (f : Nat), whole l → l ≠ [] → (soJ l).length < f → runsF f (soJ l) = some l
  | [], _, _, h, _ => absurd rfl h
  | [r], f, hw, _, hf => by
    obtain ⟨f, rfl⟩ : ∃ g, f = g + 1 := ⟨f - 1, by omega⟩
    obtain ⟨a, b, c, d⟩ := hw 0 (by simp)
    have := run1_num r [] a b c d (Or.inl rfl)
    rw [List.append_nil] at this
    show runsF (f + 1) (numR r) = _
    rw [runsF, this]
  | r :: s :: l, f, hw, _, hf => by
    obtain ⟨f, rfl⟩ : ∃ g, f = g + 1 := ⟨f - 1, by omega⟩
    obtain ⟨a, b, c, d⟩ := hw 0 (by simp)
    have h1 := run1_num r (44 :: soJ (s :: l)) a b c d (Or.inr ⟨_, rfl⟩)
    have hw' : whole (s :: l) := fun i hi => hw (i + 1) (by simpa using hi)
    have hf' : (soJ (s :: l)).length < f := by
      rw [soJ_cons r _ (by simp)] at hf
      simp at hf; omega
    have ih := runsF_so (s :: l) f hw' (by simp) hf'
    rw [soJ_cons r _ (by simp), runsF, h1]
    simp only [if_true]
    rw [ih]; rfl
theorem runsS_so {l : List (Int × Int)} (hw : whole l) (hl : l ≠ []) : runsS (soJ l) = some l := runsF_so l _ hw hl (by omega)

theorem run1_back {l : List UInt8} {r : Int × Int} {rest : List UInt8} (h : run1 l = some (r, rest)) : l = numR r ++ rest ∧ 0 ≤ r.1 ∧ r.1 < 4096 ∧ 1 ≤ r.2 ∧ r.2 ≤ 4096 - r.1 := by
  obtain ⟨u, hu⟩ := digs_pre l
  unfold run1 at h
  cases ha : numS (digs l) with
  | none => rw [ha] at h; cases h
  | some a =>
    obtain ⟨a4, ai, _⟩ := numS_some ha
    rw [ha] at h
    simp only at h
    have hd : l.drop (digs l).length = u := by
      conv => lhs; arg 2; rw [hu]
      rw [List.drop_left]
    rw [hd] at h
    by_cases h45 : u.head? = some 45
    · rw [if_pos h45] at h
      obtain ⟨v, rfl⟩ : ∃ v, u = 45 :: v := by
        cases u with
        | nil => cases h45
        | cons x v => simp at h45; exact ⟨v, by rw [h45]⟩
      simp only [List.tail_cons] at h
      obtain ⟨z, hz⟩ := digs_pre v
      cases hb : numS (digs v) with
      | none => rw [hb] at h; cases h
      | some b =>
        obtain ⟨b4, bi, _⟩ := numS_some hb
        rw [hb] at h
        simp only at h
        by_cases hle : b ≤ a
        · rw [if_pos hle] at h; cases h
        · rw [if_neg hle] at h
          simp only [Option.some.injEq, Prod.mk.injEq] at h
          obtain ⟨rfl, rfl⟩ := h
          have hdz : v.drop (digs v).length = z := by
            conv => lhs; arg 2; rw [hz]
            rw [List.drop_left]
          refine ⟨?_, by simp, by simp; omega, by simp; omega, by simp; omega⟩
          unfold numR
          simp only
          rw [if_pos (by omega), show (a : Int) + ((b : Int) - a + 1) - 1 = (b : Int) by omega, ai, bi, hdz]
          conv => lhs; rw [hu]
          conv => lhs; arg 2; arg 2; rw [hz]
          simp
    · rw [if_neg h45] at h
      simp only [Option.some.injEq, Prod.mk.injEq] at h
      obtain ⟨rfl, rfl⟩ := h
      refine ⟨?_, by simp, by simp; omega, by simp, by simp; omega⟩
      unfold numR
      simp only
      rw [if_neg (by omega), ai, List.append_nil]; exact hu
theorem whole_cons {r : Int × Int} {l : List (Int × Int)} (h : 0 ≤ r.1 ∧ r.1 < 4096 ∧ 1 ≤ r.2 ∧ r.2 ≤ 4096 - r.1) (hw : whole l) : whole (r :: l) := fun i hi => by
  cases i with
  | zero => exact h
  | succ i => exact hw i (by simpa using hi)
theorem runsF_back : ∀ (f : Nat) (l : List UInt8) (rs : List (Int × Int)), runsF f l = some rs → l = soJ rs ∧ whole rs ∧ rs ≠ []
  | 0, _, _, h => by cases h
  | f + 1, l, rs, h => by
    rw [runsF] at h
    cases h1 : run1 l with
    | none => rw [h1] at h; cases h
    | some x =>
      obtain ⟨r, rest⟩ := x
      obtain ⟨hl, hb⟩ := run1_back h1
      rw [h1] at h
      cases rest with
      | nil =>
        simp only [Option.some.injEq] at h
        subst h
        exact ⟨by rw [hl, List.append_nil]; rfl, whole_cons hb (fun i hi => by simp at hi), by simp⟩
      | cons c rest =>
        simp only at h
        by_cases hc : c = 44
        · rw [if_pos hc] at h
          cases h2 : runsF f rest with
          | none => rw [h2] at h; cases h
          | some rs' =>
            rw [h2] at h
            simp only [Option.map_some, Option.some.injEq] at h
            subst h
            obtain ⟨i1, i2, i3⟩ := runsF_back f rest rs' h2
            exact ⟨by rw [hl, hc, i1, soJ_cons _ _ i3], whole_cons hb i2, by simp⟩
        · rw [if_neg hc] at h; cases h
theorem dig_bare {c : UInt8} (h : isDig c = true) : bareB c.toNat = true := by
  have := (isDig_iff c).1 h
  unfold bareB
  have h2 : (44 ≤ c.toNat && c.toNat ≤ 59) = true := by simp; omega
  simp [h2]
theorem numR_bare {r : Int × Int} (h0 : 0 ≤ r.1) (h1 : r.1 < 4096) (h2 : 1 ≤ r.2) (h3 : r.2 ≤ 4096 - r.1) : ∀ c ∈ numR r, bareB c.toNat = true := fun c hc => by
  unfold numR at hc
  obtain ⟨n, hn⟩ := Int.eq_ofNat_of_zero_le h0
  rcases List.mem_append.1 hc with hc | hc
  · rw [hn] at hc; exact dig_bare (itoa_dig (by omega) c hc)
  · by_cases h : 1 < r.2
    · rw [if_pos h] at hc
      rcases List.mem_cons.1 hc with rfl | hc
      · decide
      · obtain ⟨m, hm⟩ : ∃ m : Nat, r.1 + r.2 - 1 = (m : Int) := ⟨(r.1 + r.2 - 1).toNat, by omega⟩
        rw [hm] at hc; exact dig_bare (itoa_dig (by omega) c hc)
    · rw [if_neg h] at hc; cases hc
theorem soJ_bare : ∀ {l : List (Int × Int)}, whole l → ∀ c ∈ soJ l, bareB c.toNat = true
  | [], _, c, hc => by cases hc
  | [r], hw, c, hc => by
    obtain ⟨a, b, d, e⟩ := hw 0 (by simp)
    exact numR_bare a b d e c hc
  | r :: s :: l, hw, c, hc => by
    obtain ⟨a, b, d, e⟩ := hw 0 (by simp)
    rw [soJ_cons r _ (by simp)] at hc
    rcases List.mem_append.1 hc with hc | hc
    · exact numR_bare a b d e c hc
    · rcases List.mem_cons.1 hc with rfl | hc
      · decide
      · exact soJ_bare (l := s :: l) (fun i hi => hw (i + 1) (by simpa using hi)) c hc
theorem soJ_ne {l : List (Int × Int)} (hw : whole l) (h : l ≠ []) : soJ l ≠ [] := by
  cases l with
  | nil => exact absurd rfl h
  | cons r l =>
    obtain ⟨a, b, _⟩ := hw 0 (by simp)
    cases l with
    | nil => exact numR_ne r a b
    | cons s l =>
      intro e
      rw [soJ_cons r _ (by simp)] at e
      exact numR_ne r a b (List.append_eq_nil_iff.1 e).1

end Go.Proofs.YtdfiblaboddbjaaGreatDoor.Prs
