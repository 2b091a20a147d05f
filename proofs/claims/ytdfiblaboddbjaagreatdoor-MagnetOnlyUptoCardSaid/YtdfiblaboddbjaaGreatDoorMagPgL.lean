/-
  What the program's runs reads is what the document's runs reads, in plain Lean.
-/
import Derived.Test.YtdfiblaboddbjaaGreatDoorMagPrsN
import Derived.Lib.SplitLaws
import Derived.Lib.IndexLaws
namespace Go.Proofs.YtdfiblaboddbjaaGreatDoor.Prs
open Go.RowKit Go.Proofs.YtdfiblaboddbjaaGreatDoor.Base Go.Proofs.YtdfiblaboddbjaaGreatDoor.Rep Go.Proofs.YtdfiblaboddbjaaGreatDoor.Mag Go.Proofs.YtdfiblaboddbjaaGreatDoor.Has
set_option linter.unusedVariables false
set_option linter.unusedSimpArgs false

theorem index1_hit (c : UInt8) (d v : List UInt8) (h : c ∉ d) : Lib.index (d ++ c :: v) [c] = (d.length : Int) := by
  rw [Lib.index_one]
  have hge := Lib.indexByte_ge (d ++ c :: v) c
  by_cases hm : Lib.indexByte (d ++ c :: v) c = -1
  · have := Lib.indexByte_none hm d.length
    simp at this
  · obtain ⟨o, ho⟩ : ∃ o : Nat, Lib.indexByte (d ++ c :: v) c = o := ⟨(Lib.indexByte (d ++ c :: v) c).toNat, by omega⟩
    obtain ⟨h1, h2⟩ := Lib.indexByte_some ho
    rw [ho]
    rcases Nat.lt_trichotomy o d.length with hl | hl | hl
    · rw [List.getElem?_append_left hl] at h1
      exact absurd (List.mem_of_getElem? h1) h
    · rw [hl]
    · have := h2 d.length hl
      simp at this
theorem index1_miss (c : UInt8) (d : List UInt8) (h : c ∉ d) : Lib.index d [c] = -1 := by
  rw [Lib.index_one]
  have hge := Lib.indexByte_ge d c
  by_cases hm : Lib.indexByte d c = -1
  · exact hm
  · obtain ⟨o, ho⟩ : ∃ o : Nat, Lib.indexByte d c = o := ⟨(Lib.indexByte d c).toNat, by omega⟩
    exact absurd (List.mem_of_getElem? (Lib.indexByte_some ho).1) h
theorem cut1_hit (c : UInt8) (d v : List UInt8) (h : c ∉ d) : Lib.cut (d ++ c :: v) [c] = (d, v, true) := by
  unfold Lib.cut
  rw [index1_hit c d v h, if_pos (by omega)]
  simp only [Int.toNat_natCast, List.length_singleton, List.take_left]
  rw [← List.drop_drop, List.drop_left]; rfl
theorem cut1_miss (c : UInt8) (d : List UInt8) (h : c ∉ d) : Lib.cut d [c] = (d, [], false) := by
  unfold Lib.cut
  rw [index1_miss c d h, if_neg (by decide)]
theorem first_at (c : UInt8) : ∀ l : List UInt8, c ∉ l ∨ ∃ d v, l = d ++ c :: v ∧ c ∉ d
  | [] => Or.inl (by simp)
  | b :: l => by
    by_cases e : b = c
    · exact Or.inr ⟨[], l, by simp [e], by simp⟩
    · rcases first_at c l with h | ⟨d, v, rfl, h⟩
      · exact Or.inl (by simp [h, Ne.symm e])
      · exact Or.inr ⟨b :: d, v, rfl, by simp [h, Ne.symm e]⟩

/-- One run, as the program reads it. -/
def seg1 (a : List UInt8) : Option (Int × Int) :=
  match numS (Lib.cut a [45]).1 with
  | none => none
  | some f =>
    if (Lib.cut a [45]).2.2 = true then
      match numS (Lib.cut a [45]).2.1 with
      | none => none
      | some t => if t ≤ f then none else some ((f : Int), (t : Int) - f + 1)
    else some ((f : Int), 1)
def segsM : List (List UInt8) → Option (List (Int × Int))
  | [] => some []
  | a :: r => match seg1 a with
    | none => none
    | some x => (segsM r).map (x :: ·)

theorem tw_app (c : UInt8) (hc : isDig c = false) (r : List UInt8) : ∀ (a : List UInt8) (k : Nat), ((a ++ c :: r).take k).takeWhile isDig = (a.take k).takeWhile isDig
  | [], 0 => rfl
  | [], k + 1 => by simp [hc]
  | b :: a, 0 => rfl
  | b :: a, k + 1 => by
    simp only [List.cons_append, List.take_succ_cons, List.takeWhile_cons]
    rw [tw_app c hc r a k]
theorem digs_comma (a r : List UInt8) : digs (a ++ 44 :: r) = digs a := tw_app 44 rfl r a 5
theorem digs_rest {a rest : List UInt8} (hr : rest = [] ∨ ∃ r, rest = 44 :: r) : digs (a ++ rest) = digs a := by
  rcases hr with rfl | ⟨r, rfl⟩
  · rw [List.append_nil]
  · exact digs_comma a r
theorem digs_pre (a : List UInt8) : ∃ u, a = digs a ++ u := by
  have h : digs a <+: a := (List.takeWhile_prefix _).trans (List.take_prefix _ _)
  obtain ⟨u, hu⟩ := h
  exact ⟨u, hu.symm⟩
theorem digs_dig (a : List UInt8) : ∀ c ∈ digs a, isDig c = true := fun c hc => by
  have := List.all_takeWhile (l := a.take 5) (p := isDig)
  rw [List.all_eq_true] at this
  exact this c hc
theorem digs_self {l : List UInt8} {n : Nat} (h : numS l = some n) : digs l = l := by
  obtain ⟨_, _, h1, _, h2, _⟩ := numS_some h
  unfold digs
  rw [List.take_of_length_le (by omega)]
  rw [List.all_eq_true] at h1
  have := List.takeWhile_append_of_pos (p := isDig) (l₁ := l) (l₂ := []) h1
  simpa using this

theorem head_cases (c : UInt8) (u : List UInt8) : u = [] ∨ (∃ v, u = c :: v) ∨ ∃ x v, u = x :: v ∧ x ≠ c := by
  cases u with
  | nil => exact Or.inl rfl
  | cons x v =>
    by_cases e : x = c
    · exact Or.inr (Or.inl ⟨v, by rw [e]⟩)
    · exact Or.inr (Or.inr ⟨x, v, rfl, e⟩)
theorem rest_head {rest : List UInt8} (hr : rest = [] ∨ ∃ r, rest = 44 :: r) : rest.head? ≠ some 45 := by
  rcases hr with rfl | ⟨r, rfl⟩
  · simp
  · simp

/-- A run at the head. -/
theorem run_core (a rest : List UInt8) (h44 : (44 : UInt8) ∉ a) (hr : rest = [] ∨ ∃ r, rest = 44 :: r) :
    (∃ r, seg1 a = some r ∧ run1 (a ++ rest) = some (r, rest)) ∨ (seg1 a = none ∧ (run1 (a ++ rest) = none ∨ ∃ r c t, run1 (a ++ rest) = some (r, c :: t) ∧ c ≠ 44)) := by
  obtain ⟨u, hu⟩ := digs_pre a
  obtain ⟨d, hd⟩ : ∃ d, digs a = d := ⟨_, rfl⟩
  have hdd := digs_dig a
  have hrd := digs_rest (a := a) hr
  rw [hd] at hu hdd hrd
  have h45 : (45 : UInt8) ∉ d := fun h => by have := hdd _ h; revert this; decide
  have hdrop : (a ++ rest).drop d.length = u ++ rest := by
    conv => lhs; rw [hu]
    rw [List.append_assoc, List.drop_left]
  have hrun : run1 (a ++ rest) = match numS d with
      | none => none
      | some n => if (u ++ rest).head? = some 45 then
          (match numS (digs (u ++ rest).tail) with
            | none => none
            | some b => if b ≤ n then none else some (((n : Int), (b : Int) - n + 1), (u ++ rest).tail.drop (digs (u ++ rest).tail).length))
        else some (((n : Int), 1), u ++ rest) := by
    unfold run1
    rw [hrd, hdrop]
    cases numS d with
    | none => rfl
    | some n => rfl
  rcases head_cases 45 u with rfl | ⟨v, rfl⟩ | ⟨x, v, rfl, hx⟩
  · -- the run is digits alone
    rw [List.append_nil] at hu
    subst hu
    have hc := cut1_miss 45 a h45
    simp only [List.nil_append, eq_false (rest_head hr), if_false] at hrun
    cases hn : numS a with
    | none =>
      right
      rw [hn] at hrun
      exact ⟨by unfold seg1; rw [hc]; simp only [hn], Or.inl hrun⟩
    | some n =>
      left
      rw [hn] at hrun
      exact ⟨((n : Int), 1), by unfold seg1; rw [hc]; simp only [hn]; rfl, hrun⟩
  · -- a second number
    have hc : Lib.cut a [45] = (d, v, true) := by conv => lhs; rw [hu]
                                                  exact cut1_hit 45 d v h45
    simp only [List.cons_append, List.head?_cons, if_true, List.tail_cons, digs_rest hr] at hrun
    have hs : seg1 a = match numS d with
        | none => none
        | some f => match numS v with
          | none => none
          | some t => if t ≤ f then none else some ((f : Int), (t : Int) - f + 1) := by
      unfold seg1; rw [hc]; rfl
    cases hn : numS d with
    | none =>
      right
      rw [hn] at hrun hs
      exact ⟨hs, Or.inl hrun⟩
    | some f =>
      rw [hn] at hrun hs
      simp only at hrun hs
      cases hv : numS v with
      | some t =>
        have hv' := digs_self hv
        rw [hv] at hs
        rw [hv', hv] at hrun
        simp only [List.drop_left] at hrun hs
        by_cases hle : t ≤ f
        · right
          rw [if_pos hle] at hrun hs
          exact ⟨hs, Or.inl hrun⟩
        · left
          rw [if_neg hle] at hrun hs
          exact ⟨_, hs, hrun⟩
      | none =>
        right
        rw [hv] at hs
        refine ⟨hs, ?_⟩
        cases hw : numS (digs v) with
        | none =>
          left
          rw [hw] at hrun
          exact hrun
        | some b =>
          rw [hw] at hrun
          simp only at hrun
          by_cases hle : b ≤ f
          · left; rw [if_pos hle] at hrun; exact hrun
          · right
            rw [if_neg hle] at hrun
            obtain ⟨u2, hu2⟩ := digs_pre v
            have hdr : (v ++ rest).drop (digs v).length = u2 ++ rest := by
              have e : v ++ rest = digs v ++ (u2 ++ rest) := by rw [← List.append_assoc, ← hu2]
              rw [e, List.drop_left]
            rw [hdr] at hrun
            cases u2 with
            | nil =>
              rw [List.append_nil] at hu2
              rw [← hu2, hv] at hw
              cases hw
            | cons x t =>
              refine ⟨_, x, t ++ rest, hrun, fun e => h44 ?_⟩
              rw [hu, hu2, e]; simp
  · -- something else
    have hcut : ∃ a1 x1 b1, Lib.cut a [45] = (d ++ x1 :: a1, b1) := by
      rcases first_at 45 v with h | ⟨p, q, rfl, h⟩
      · refine ⟨v, x, ([], false), ?_⟩
        conv => lhs; rw [hu]
        exact cut1_miss 45 _ (by simp [h45, h, Ne.symm hx])
      · refine ⟨p, x, (q, true), ?_⟩
        have e : a = (d ++ x :: p) ++ 45 :: q := by rw [hu]; simp
        conv => lhs; rw [e]
        exact cut1_hit 45 _ q (by simp [h45, h, Ne.symm hx])
    obtain ⟨a1, x1, b1, hcut⟩ := hcut
    have hx1 : x1 = x := by
      have : (Lib.cut a [45]).1 <+: a := by
        unfold Lib.cut
        split
        · exact List.take_prefix _ _
        · exact List.prefix_refl _
      rw [hcut] at this
      obtain ⟨z, hz⟩ := this
      rw [hu, List.append_assoc] at hz
      have := List.append_cancel_left hz
      simp at this
      exact this.1
    have hpre : (d ++ x1 :: a1) <+: a := by
      have : (Lib.cut a [45]).1 <+: a := by
        unfold Lib.cut
        split
        · exact List.take_prefix _ _
        · exact List.prefix_refl _
      rw [hcut] at this
      exact this
    have hnum : numS (d ++ x1 :: a1) = none := by
      cases hn : numS (d ++ x1 :: a1) with
      | none => rfl
      | some n =>
        exfalso
        obtain ⟨_, _, h1, _, h2, _⟩ := numS_some hn
        rw [List.all_eq_true] at h1
        obtain ⟨z, hz⟩ := hpre
        have hlen : ((d ++ x1 :: a1) ++ z.take (5 - (d ++ x1 :: a1).length)) = a.take 5 := by
          rw [← hz, List.take_append, List.take_of_length_le (l := d ++ x1 :: a1) (by omega)]
        have : (d ++ x1 :: a1).length ≤ d.length := by
          have e : d = (d ++ x1 :: a1) ++ (z.take (5 - (d ++ x1 :: a1).length)).takeWhile isDig := by
            conv => lhs; rw [← hd]
            unfold digs
            rw [← hlen, List.takeWhile_append_of_pos h1]
          have := congrArg List.length e
          rw [List.length_append] at this
          omega
        simp at this
        omega
    have hs : seg1 a = none := by unfold seg1; rw [hcut]; simp only [hnum]
    right
    refine ⟨hs, ?_⟩
    cases hn : numS d with
    | none => left; rw [hn] at hrun; exact hrun
    | some n =>
      right
      rw [hn] at hrun
      simp only [List.cons_append, List.head?_cons, Option.some.injEq, if_neg hx] at hrun
      refine ⟨_, x, v ++ rest, hrun, fun e => h44 ?_⟩
      rw [hu, e]; simp

theorem runs_split : ∀ (k f : Nat) (l : List UInt8), Lib.count l [44] = k → l.length < f → runsF f l = segsM (Lib.splitK [44] 0 k l)
  | _, 0, _, _, hf => by omega
  | 0, f + 1, l, hk, hf => by
    have h44 : (44 : UInt8) ∉ l := by
      rw [Lib.count_one] at hk
      exact List.count_eq_zero.1 hk
    have hc := run_core l [] h44 (Or.inl rfl)
    rw [List.append_nil] at hc
    show runsF (f + 1) l = segsM [l]
    unfold runsF segsM
    rcases hc with ⟨r, h1, h2⟩ | ⟨h1, h2 | ⟨r, c, t, h2, h3⟩⟩
    · rw [h1, h2]; rfl
    · rw [h1, h2]
    · rw [h1, h2]; simp [h3]
  | k + 1, f + 1, l, hk, hf => by
    rcases first_at 44 l with h | ⟨a, r, rfl, h⟩
    · rw [Lib.count_one, List.count_eq_zero.2 h] at hk; omega
    · have hk' : Lib.count r [44] = k := by
        rw [Lib.count_one] at hk ⊢
        rw [List.count_append, List.count_eq_zero.2 h, List.count_cons_self] at hk
        omega
      have hix := index1_hit 44 a r h
      have hc := run_core a (44 :: r) h (Or.inr ⟨r, rfl⟩)
      have hsp : Lib.splitK [44] 0 (k + 1) (a ++ 44 :: r) = a :: Lib.splitK [44] 0 k r := by
        rw [Lib.splitK, hix, if_neg (by simp)]
        simp only [Int.toNat_natCast, Nat.add_zero, List.take_left, List.length_singleton]
        rw [← List.drop_drop, List.drop_left]; rfl
      rw [hsp]
      have ih := runs_split k f r hk' (by simp at hf; omega)
      unfold runsF segsM
      rcases hc with ⟨x, h1, h2⟩ | ⟨h1, h2 | ⟨x, c, t, h2, h3⟩⟩
      · rw [h1, h2]; simp only [if_true]; rw [ih]
      · rw [h1, h2]
      · rw [h1, h2]; simp [h3]

/-- The pieces that strings.Split hands out. -/
def segB (s : ByteArray) : List ByteArray := Lib.splitB ⟨#[44]⟩ 0 (Lib.countB s ⟨#[44]⟩) s
theorem runsS_seg (s : ByteArray) : runsS s.data.toList = segsM ((segB s).map (·.data.toList)) := by
  unfold runsS segB
  rw [Lib.splitB_data]
  exact runs_split _ _ _ rfl (Nat.lt_succ_self _)

end Go.Proofs.YtdfiblaboddbjaaGreatDoor.Prs
