/-
  There and back, in plain Lean: parts and pairs.
-/
import Derived.Test.YtdfiblaboddbjaaGreatDoorMagRnd1
import Derived.Test.YtdfiblaboddbjaaGreatDoorMagPgI
import Derived.Test.YtdfiblaboddbjaaGreatDoorMagPrint
namespace Go.Proofs.YtdfiblaboddbjaaGreatDoor.Prs
open Go.RowKit Go.Proofs.YtdfiblaboddbjaaGreatDoor.Base Go.Proofs.YtdfiblaboddbjaaGreatDoor.Rep Go.Proofs.YtdfiblaboddbjaaGreatDoor.Mag Go.Proofs.YtdfiblaboddbjaaGreatDoor.Has
set_option linter.unusedVariables false
set_option linter.unusedSimpArgs false

/-- Parts, glued. -/
def glue : List (List UInt8) → List UInt8
  | [] => []
  | p :: ps => p ++ ps.flatMap (38 :: ·)
theorem glue_cons (p q : List UInt8) (ps : List (List UInt8)) : glue (p :: q :: ps) = p ++ 38 :: glue (q :: ps) := by simp [glue]
theorem glue_one (p : List UInt8) : glue [p] = p := by simp [glue]

/-- The parts go through without a fault. -/
noncomputable def okF : List (List UInt8) → Pk → Nat → ByteArray → Option (Pk × Nat × ByteArray)
  | [], P, n, last => some (P, n, last)
  | p :: ps, P, n, last => if (stepP P n last p).2.2.2 = 0 then okF ps (stepP P n last p).1 (n + 1) (stepP P n last p).2.1 else none

theorem no38 {p : List UInt8} (h : (38 : UInt8) ∉ p) : p.findIdx? (fun b => b == 38) = none := by
  rw [List.findIdx?_eq_none_iff]
  intro x hx
  have : x ≠ 38 := fun e => h (e ▸ hx)
  simpa using this
theorem at38 {p r : List UInt8} (h : (38 : UInt8) ∉ p) : (p ++ 38 :: r).findIdx? (fun b => b == 38) = some p.length := by
  rw [List.findIdx?_eq_some_iff_getElem]
  refine ⟨by simp, by simp, fun j hj => ?_⟩
  rw [List.getElem_append_left hj]
  have : p[j] ≠ 38 := fun e => h (e ▸ List.getElem_mem hj)
  simpa using this

theorem parse_glue : ∀ (ps : List (List UInt8)) (p : List UInt8) (f o n : Nat) (P : Pk) (last : ByteArray) (x : Pk × Nat × ByteArray), (∀ q ∈ p :: ps, (38 : UInt8) ∉ q) → (glue (p :: ps)).length < f → okF (p :: ps) P n last = some x →
    parseF f (glue (p :: ps)) o P n last = (x.1, 0, 0)
  | [], p, f, o, n, P, last, x, h, hf, hx => by
    obtain ⟨f, rfl⟩ : ∃ g, f = g + 1 := ⟨f - 1, by omega⟩
    rw [glue_one, parseF_last (no38 (h p (by simp)))]
    rw [okF] at hx
    by_cases he : (stepP P n last p).2.2.2 = 0
    · rw [if_pos he] at hx
      rw [if_neg (by rw [he]; simp)]
      rw [okF] at hx
      injection hx with hx
      rw [← hx]
    · rw [if_neg he] at hx; cases hx
  | q :: ps, p, f, o, n, P, last, x, h, hf, hx => by
    obtain ⟨f, rfl⟩ : ∃ g, f = g + 1 := ⟨f - 1, by omega⟩
    have hp := h p (by simp)
    rw [glue_cons] at hf ⊢
    rw [parseF_more (at38 hp)]
    rw [okF] at hx
    by_cases he : (stepP P n last p).2.2.2 = 0
    · rw [if_pos he] at hx
      rw [List.take_left, if_neg (by rw [he]; simp)]
      have hd : (p ++ 38 :: glue (q :: ps)).drop (p.length + 1) = glue (q :: ps) := by
        rw [← List.drop_drop, List.drop_left]; rfl
      rw [hd]
      exact parse_glue ps q f _ _ _ _ x (fun r hr => h r (List.mem_cons_of_mem _ hr)) (by simp at hf; omega) hx
    · rw [if_neg he] at hx; cases hx

theorem stepP_in (P : Pk) (n : Nat) (last : ByteArray) (l : List UInt8) : 0 ≤ (stepP P n last l).2.2.1 ∧ (stepP P n last l).2.2.1 ≤ l.length := by
  rcases plc_range l 61 with hq | ⟨m, hm, hq⟩
  · rw [stepP_a (by omega)]; exact ⟨Int.le_refl _, by simp⟩
  · by_cases h0 : m = 0
    · rw [stepP_a (by omega)]; exact ⟨Int.le_refl _, by simp⟩
    · cases hu : une 0 (l.take m) with
      | error i =>
        rw [stepP_b hq (by omega) hu]
        have := une_err _ _ _ _ (Nat.le_refl _) hu
        simp at this ⊢; omega
      | ok kl =>
        cases hv : une 0 (l.drop (m + 1)) with
        | error i =>
          rw [stepP_c hq (by omega) hu hv]
          have := une_err _ _ _ _ (Nat.le_refl _) hv
          simp at this ⊢; omega
        | ok vl =>
          rw [stepP_d hq (by omega) hu hv]
          split <;> exact ⟨Int.le_refl _, by simp⟩

theorem parse_back : ∀ (f : Nat) (rest : List UInt8) (o n : Nat) (P : Pk) (last : ByteArray), rest.length < f →
    ((parseF f rest o P n last).2.2 = 0 → (parseF f rest o P n last).2.1 = 0 ∧ ∃ p ps x, rest = glue (p :: ps) ∧ (∀ q ∈ p :: ps, (38 : UInt8) ∉ q) ∧ okF (p :: ps) P n last = some x ∧ (parseF f rest o P n last).1 = x.1) ∧
    ((parseF f rest o P n last).2.2 ≠ 0 → (parseF f rest o P n last).1 = Pk.bare ∧ 0 ≤ (parseF f rest o P n last).2.1 ∧ (parseF f rest o P n last).2.1 ≤ o + rest.length)
  | 0, _, _, _, _, _, h => by omega
  | f + 1, rest, o, n, P, last, h => by
    cases hq : rest.findIdx? (fun b => b == 38) with
    | none =>
      rw [parseF_last hq]
      have hof := stepP_in P n last rest
      by_cases he : (stepP P n last rest).2.2.2 = 0
      · rw [if_neg (by rw [he]; simp)]
        refine ⟨fun _ => ⟨rfl, rest, [], ((stepP P n last rest).1, n + 1, (stepP P n last rest).2.1), (glue_one rest).symm, ?_, ?_, rfl⟩, fun h => absurd rfl h⟩
        · intro q hqm
          simp only [List.mem_singleton] at hqm
          subst hqm
          intro hm
          have := List.findIdx?_eq_none_iff.1 hq 38 hm
          simp at this
        · rw [okF, if_pos he, okF]
      · rw [if_pos he]
        exact ⟨fun h => absurd h he, fun _ => ⟨rfl, by show (0 : Int) ≤ (o : Int) + _; omega, by show (o : Int) + _ ≤ _; omega⟩⟩
    | some k =>
      obtain ⟨hk, h38, hno⟩ := List.findIdx?_eq_some_iff_getElem.1 hq
      rw [parseF_more hq]
      have hof := stepP_in P n last (rest.take k)
      have htl : (rest.take k).length = k := by rw [List.length_take]; omega
      rw [htl] at hof
      by_cases he : (stepP P n last (rest.take k)).2.2.2 = 0
      · rw [if_neg (by rw [he]; simp)]
        have hdl : (rest.drop (k + 1)).length = rest.length - (k + 1) := List.length_drop
        have ih := parse_back f (rest.drop (k + 1)) (o + k + 1) (n + 1) (stepP P n last (rest.take k)).1 (stepP P n last (rest.take k)).2.1 (by omega)
        refine ⟨fun h0 => ?_, fun h0 => ?_⟩
        · obtain ⟨a, p, ps, x, h1, h2, h3, h4⟩ := ih.1 h0
          have hp38 : (38 : UInt8) ∉ rest.take k := fun hm => by
            obtain ⟨j, hj, e⟩ := List.getElem_of_mem hm
            have hj' : j < k := by rw [htl] at hj; exact hj
            have := hno j hj'
            rw [List.getElem_take] at e
            rw [e] at this
            exact absurd this (by decide)
          refine ⟨a, rest.take k, p :: ps, x, ?_, ?_, ?_, h4⟩
          · rw [glue_cons, ← h1]
            have hg : rest[k] = 38 := by simpa using h38
            have := List.drop_eq_getElem_cons hk
            rw [hg] at this
            rw [← this, List.take_append_drop]
          · intro q hqm
            rcases List.mem_cons.1 hqm with rfl | hqm
            · exact hp38
            · exact h2 q hqm
          · rw [okF, if_pos he]; exact h3
        · obtain ⟨a, b, c⟩ := ih.2 h0
          exact ⟨a, b, by omega⟩
      · rw [if_pos he]
        exact ⟨fun h => absurd h he, fun _ => ⟨rfl, by show (0 : Int) ≤ (o : Int) + _; omega, by show (o : Int) + _ ≤ _; omega⟩⟩

/-- A pair, as it is written. -/
def kv (x : ByteArray × ByteArray) : List UInt8 := escL x.1.data.toList ++ 61 :: escL x.2.data.toList
theorem kv_no38 (x : ByteArray × ByteArray) : (38 : UInt8) ∉ kv x := fun h => by
  unfold kv at h
  rcases List.mem_append.1 h with h | h
  · exact esc_no (by decide) (by decide) h
  · rcases List.mem_cons.1 h with h | h
    · exact absurd h (by decide)
    · exact esc_no (by decide) (by decide) h
theorem ba_eta (k : ByteArray) : (⟨k.data.toList.toArray⟩ : ByteArray) = k := by cases k; simp
theorem ba_ne {k : ByteArray} (h : k ≠ ⟨#[]⟩) : k.data.toList ≠ [] := fun e => h (by
  rw [← ba_eta k, e])
theorem step_kv {P : Pk} {n : Nat} {last : ByteArray} {x : ByteArray × ByteArray} (hk : x.1 ≠ ⟨#[]⟩) :
    stepP P n last (kv x) = if placeE P n last x.1 x.2 ≠ 0 then (P, ⟨#[]⟩, 0, placeE P n last x.1 x.2) else ((holdP P x.1 x.2).1, x.1, 0, (holdP P x.1 x.2).2) := by
  have h61 : (61 : UInt8) ∉ escL x.1.data.toList := esc_no (by decide) (by decide)
  have hl : 1 ≤ (escL x.1.data.toList).length := by
    rcases Nat.eq_zero_or_pos (escL x.1.data.toList).length with h | h
    · exact absurd (esc_nil.1 (List.length_eq_zero_iff.1 h)) (ba_ne hk)
    · exact h
  have hd : (kv x).drop ((escL x.1.data.toList).length + 1) = escL x.2.data.toList := by
    unfold kv; rw [← List.drop_drop, List.drop_left]; rfl
  have ht : (kv x).take (escL x.1.data.toList).length = escL x.1.data.toList := by unfold kv; rw [List.take_left]
  have := stepP_d (P := P) (n := n) (last := last) (l := kv x) (m := (escL x.1.data.toList).length) (kl := x.1.data.toList) (vl := x.2.data.toList) (plc_hit h61) hl (by rw [ht]; exact une_esc _ 0) (by rw [hd]; exact une_esc _ 0)
  rw [ba_eta, ba_eta] at this
  exact this
theorem step_back {P : Pk} {n : Nat} {last : ByteArray} {p : List UInt8} (h : (stepP P n last p).2.2.2 = 0) :
    ∃ x : ByteArray × ByteArray, p = kv x ∧ x.1 ≠ ⟨#[]⟩ ∧ placeE P n last x.1 x.2 = 0 ∧ (holdP P x.1 x.2).2 = 0 ∧ (stepP P n last p).1 = (holdP P x.1 x.2).1 ∧ (stepP P n last p).2.1 = x.1 := by
  rcases first_at 61 p with hno | ⟨d, v, rfl, hno⟩
  · rw [stepP_a (by rw [plc_miss hno]; decide)] at h; cases h
  · have hq := plc_hit (v := v) hno
    have ht : (d ++ 61 :: v).take d.length = d := by rw [List.take_left]
    have hd : (d ++ 61 :: v).drop (d.length + 1) = v := by rw [← List.drop_drop, List.drop_left]; rfl
    by_cases h0 : d.length = 0
    · rw [stepP_a (by rw [hq, h0]; decide)] at h; cases h
    · cases hu : une 0 d with
      | error i => rw [stepP_b hq (by omega) (by rw [ht]; exact hu)] at h; cases h
      | ok kl =>
        cases hv : une 0 v with
        | error i => rw [stepP_c hq (by omega) (by rw [ht]; exact hu) (by rw [hd]; exact hv)] at h; cases h
        | ok vl =>
          have e1 := esc_of_une _ _ _ _ (Nat.le_refl _) hu
          have e2 := esc_of_une _ _ _ _ (Nat.le_refl _) hv
          have hst := stepP_d (P := P) (n := n) (last := last) hq (by omega) (by rw [ht]; exact hu) (by rw [hd]; exact hv)
          have hne : (⟨kl.toArray⟩ : ByteArray) ≠ ⟨#[]⟩ := fun e => by
            have : kl = [] := by
              have := congrArg (fun b : ByteArray => b.data.toList) e
              simpa using this
            rw [this] at e1
            rw [← e1] at h0
            exact h0 rfl
          refine ⟨(⟨kl.toArray⟩, ⟨vl.toArray⟩), by unfold kv; simp only; rw [e1, e2], hne, ?_⟩
          rw [hst] at h ⊢
          by_cases hp : placeE P n last ⟨kl.toArray⟩ ⟨vl.toArray⟩ = 0
          · rw [if_neg (by rw [hp]; simp)] at h ⊢
            exact ⟨hp, h, rfl, rfl⟩
          · rw [if_pos hp] at h
            exact absurd h hp

/-- Pairs go through without a fault. -/
noncomputable def okK : List (ByteArray × ByteArray) → Pk → Nat → ByteArray → Option (Pk × Nat × ByteArray)
  | [], P, n, last => some (P, n, last)
  | x :: l, P, n, last => if x.1 ≠ ⟨#[]⟩ ∧ placeE P n last x.1 x.2 = 0 ∧ (holdP P x.1 x.2).2 = 0 then okK l (holdP P x.1 x.2).1 (n + 1) x.1 else none
theorem okF_kv : ∀ (l : List (ByteArray × ByteArray)) (P : Pk) (n : Nat) (last : ByteArray) (y : Pk × Nat × ByteArray), okK l P n last = some y → okF (l.map kv) P n last = some y
  | [], _, _, _, _, h => h
  | x :: l, P, n, last, y, h => by
    rw [okK] at h
    by_cases hc : x.1 ≠ ⟨#[]⟩ ∧ placeE P n last x.1 x.2 = 0 ∧ (holdP P x.1 x.2).2 = 0
    · rw [if_pos hc] at h
      have hs := step_kv (P := P) (n := n) (last := last) hc.1
      rw [if_neg (by rw [hc.2.1]; simp)] at hs
      show okF (kv x :: l.map kv) P n last = _
      rw [okF, hs, if_pos hc.2.2]
      exact okF_kv l _ _ _ y h
    · rw [if_neg hc] at h; cases h
theorem okF_back : ∀ (ps : List (List UInt8)) (P : Pk) (n : Nat) (last : ByteArray) (y : Pk × Nat × ByteArray), okF ps P n last = some y → ∃ l, ps = l.map kv ∧ okK l P n last = some y
  | [], _, _, _, _, h => ⟨[], rfl, h⟩
  | p :: ps, P, n, last, y, h => by
    rw [okF] at h
    by_cases hc : (stepP P n last p).2.2.2 = 0
    · rw [if_pos hc] at h
      obtain ⟨x, rfl, h1, h2, h3, h4, h5⟩ := step_back hc
      rw [h4, h5] at h
      obtain ⟨l, rfl, hl⟩ := okF_back ps _ _ _ y h
      exact ⟨x :: l, rfl, by rw [okK, if_pos ⟨h1, h2, h3⟩]; exact hl⟩
    · rw [if_neg hc] at h; cases h
theorem okK_app : ∀ (a b : List (ByteArray × ByteArray)) (P : Pk) (n : Nat) (last : ByteArray), okK (a ++ b) P n last = (okK a P n last).bind fun x => okK b x.1 x.2.1 x.2.2
  | [], _, _, _, _ => rfl
  | x :: a, b, P, n, last => by
    show okK (x :: (a ++ b)) P n last = _
    rw [okK, okK]
    by_cases hc : x.1 ≠ ⟨#[]⟩ ∧ placeE P n last x.1 x.2 = 0 ∧ (holdP P x.1 x.2).2 = 0
    · rw [if_pos hc, if_pos hc]; exact okK_app a b _ _ _
    · rw [if_neg hc, if_neg hc]; rfl

/-! ### Order of keys -/
theorem bl_irr : ∀ a : List UInt8, Op.bytesLess a a = false
  | [] => rfl
  | x :: a => by simp [Op.bytesLess, bl_irr a]
theorem bl_asym : ∀ a b : List UInt8, Op.bytesLess a b = true → Op.bytesLess b a = false
  | [], [], h => by cases h
  | [], _ :: _, _ => rfl
  | _ :: _, [], h => by cases h
  | x :: a, y :: b, h => by
    simp only [Op.bytesLess, Bool.or_eq_true, decide_eq_true_eq, Bool.and_eq_true, beq_iff_eq] at h
    simp only [Op.bytesLess, Bool.or_eq_false_iff, decide_eq_false_iff_not, Bool.and_eq_false_iff, beq_eq_false_iff_ne]
    rcases h with h | ⟨rfl, h⟩
    · refine ⟨fun h2 => ?_, Or.inl (fun e => ?_)⟩
      · rw [UInt8.lt_iff_toNat_lt] at h h2; omega
      · rw [e, UInt8.lt_iff_toNat_lt] at h; omega
    · exact ⟨fun h2 => by rw [UInt8.lt_iff_toNat_lt] at h2; omega, Or.inr (bl_asym a b h)⟩
theorem bl_tri : ∀ a b : List UInt8, Op.bytesLess b a = false → a ≠ b → Op.bytesLess a b = true
  | [], [], _, h => absurd rfl h
  | [], _ :: _, _, _ => rfl
  | _ :: _, [], h, _ => by simp [Op.bytesLess] at h
  | x :: a, y :: b, h, hne => by
    simp only [Op.bytesLess, Bool.or_eq_false_iff, decide_eq_false_iff_not, Bool.and_eq_false_iff, beq_eq_false_iff_ne] at h
    simp only [Op.bytesLess, Bool.or_eq_true, decide_eq_true_eq, Bool.and_eq_true, beq_iff_eq]
    rcases Nat.lt_trichotomy x.toNat y.toNat with h1 | h1 | h1
    · exact Or.inl (UInt8.lt_iff_toNat_lt.2 h1)
    · have e : x = y := UInt8.toNat_inj.1 h1
      subst e
      refine Or.inr ⟨rfl, bl_tri a b ?_ (fun e => hne (by rw [e]))⟩
      rcases h.2 with h2 | h2
      · exact absurd rfl h2
      · exact h2
    · exact absurd (UInt8.lt_iff_toNat_lt.2 h1) h.1
theorem less_iff (a b : ByteArray) : lessB a b = true ↔ lessB b a = false ∧ a ≠ b := by
  unfold lessB
  rw [Lib.toList_data, Lib.toList_data]
  constructor
  · intro h
    refine ⟨bl_asym _ _ h, fun e => ?_⟩
    rw [e, bl_irr] at h; cases h
  · rintro ⟨h1, h2⟩
    exact bl_tri _ _ h1 (fun e => h2 (by rw [← ba_eta a, ← ba_eta b, e]))
theorem hasB_iff (l : List ByteArray) (s : ByteArray) : hasB l s = false ↔ s ∉ l := by
  unfold hasB idx
  constructor
  · intro h hm
    cases hf : l.findIdx? (fun t => decide (t = s)) with
    | none =>
      have := List.findIdx?_eq_none_iff.1 hf s hm
      simp at this
    | some k => rw [hf] at h; cases h
  · intro h
    have : l.findIdx? (fun t => decide (t = s)) = none := by
      rw [List.findIdx?_eq_none_iff]
      intro x hx
      have : x ≠ s := fun e => h (e ▸ hx)
      simpa using this
    rw [this]; rfl
theorem dup_iff (l : List ByteArray) : ¬ dupP l ↔ l.Nodup := by
  unfold dupP List.Nodup
  rw [List.pairwise_iff_getElem]
  constructor
  · intro h i j hi hj hij e
    apply h
    refine ⟨j, hj, ?_⟩
    cases hb : hasB (l.take j) l[j] with
    | true => rfl
    | false =>
      exfalso
      rw [hasB_iff] at hb
      apply hb
      rw [← e, List.mem_take_iff_getElem]
      exact ⟨i, by omega, rfl⟩
  · rintro h ⟨i, hi, hb⟩
    have : l[i] ∈ l.take i := by
      by_cases hm : l[i] ∈ l.take i
      · exact hm
      · have := (hasB_iff (l.take i) l[i]).2 hm
        rw [hb] at this; cases this
    rw [List.mem_take_iff_getElem] at this
    obtain ⟨j, hj, e⟩ := this
    exact h j i (by omega) hi (by omega) e

end Go.Proofs.YtdfiblaboddbjaaGreatDoor.Prs
