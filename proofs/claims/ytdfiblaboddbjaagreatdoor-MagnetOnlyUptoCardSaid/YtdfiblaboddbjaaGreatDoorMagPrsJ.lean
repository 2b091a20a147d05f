/-
  The document's joined.
-/
import Derived.Test.YtdfiblaboddbjaaGreatDoorMagOL
namespace Go.Proofs.YtdfiblaboddbjaaGreatDoor.Prs
open Go.RowKit Go.Proofs.YtdfiblaboddbjaaGreatDoor.Base Go.Proofs.YtdfiblaboddbjaaGreatDoor.Rep Go.Proofs.YtdfiblaboddbjaaGreatDoor.Mag Go.Proofs.YtdfiblaboddbjaaGreatDoor.Has
set_option linter.unusedVariables false
set_option linter.unusedSimpArgs false

theorem own_turn {w w' : World} {B e s n q : Nat} {v : Value} {xs : List Value} {cs : Array Value} {T : TypeId} {fr : Nat × Nat} (h : w.ownsRow B e s v n xs) (hg : w.grownBy w' (some q)) (hq : w.heap[q]? = some (Obj.cells cs T fr)) (he : e ≠ T) : w'.ownsRow B e s v n xs := by
  refine h.kept hg ?_
  rcases h.2 with ⟨rfl, _⟩ | ⟨g, cap, cur, rfl, _, hgb, _⟩
  · left; rfl
  · right
    simp only [Value.ownBlock, Option.map_some, ne_eq, Option.some.injEq]
    intro e1
    subst e1
    rw [hq] at hgb
    injection hgb with h1
    injection h1 with h2 h3
    exact he h3.symm
/-- Another block, of another kind, turns. -/
theorem OL.turn {w w' : World} {B N q : Nat} {P : Pk} {tv pv ov mv : Value} {cs : Array Value} {T : TypeId} {fr : Nat × Nat} (h : OL w B N P tv pv ov mv) (hg : w.grownBy w' (some q)) (hq : w.heap[q]? = some (Obj.cells cs T fr)) (h1 : T ≠ 9) (h2 : T ≠ 43) (h3 : T ≠ 51) : OL w' B N P tv pv ov mv :=
  ⟨h.info, h.name, own_turn h.tr hg hq h1.symm, own_turn h.pe hg hq h1.symm, own_turn h.on hg hq h2.symm, own_turn h.mo hg hq h3.symm, h.tp, h.cnt, h.trs, h.pes, h.mos, h.who⟩
theorem grown_setCell (w : World) (q j : Nat) (v : Value) : w.grownBy (w.setCell ⟨q, j, none⟩ v) (some q) := ⟨rfl, rfl, rfl, by simp, fun k hk hne => Below.heap_setCell w ⟨q, j, none⟩ v k (fun e => hne (by rw [e]))⟩
theorem grown_setRow (w : World) (q : Nat) (cs : Array Value) : w.grownBy (w.setRow q cs) (some q) := ⟨rfl, rfl, rfl, by simp, fun k hk hne => setRow_other w q k cs (fun e => hne (by rw [e]))⟩
theorem KeptT.turn {w w1 w2 : World} {q : Nat} (h : KeptT w w1) (hg : w1.grownBy w2 (some q)) (hq : w.heap.size ≤ q) : KeptT w w2 := ⟨Nat.le_trans h.1 hg.size, fun k cs T fr a b c d => by
  have hlt := (Array.getElem?_eq_some_iff.1 d).1
  rw [hg.block k (by have := h.1; omega) (fun e => by injection e with e; omega)]
  exact h.2 k cs T fr a b c d⟩
theorem Below.turn {B : Nat} {w w1 w2 : World} {q : Nat} (h : Below B w w1) (hg : w1.grownBy w2 (some q)) (hq : B ≤ q) (hB : B ≤ w1.heap.size) : Below B w w2 := h.grown hg hB (fun k e => by cases e; exact hq)

theorem lcells_set32 {X : Lk} (h : X.info.length = 32) (tv pv ov mv : Value) (s : ByteArray) : (lcells X tv pv ov mv).set 32 (.string s) = lcells { X with name := s } tv pv ov mv := by simp [lcells, List.set_append, h]
theorem lcells_set36 {X : Lk} (h : X.info.length = 32) (tv pv ov mv v : Value) : (lcells X tv pv ov mv).set 36 v = lcells X tv pv ov v := by simp [lcells, List.set_append, h]
theorem Lb.set {w : World} {b j : Nat} {T : TypeId} {X : Lk} {tv pv ov mv : Value} (h : Lb w b T X tv pv ov mv) (u : Value) : (w.setCell ⟨b, j, none⟩ u).heap[b]? = some (Obj.cells ((lcells X tv pv ov mv).set j u).toArray T (0, 0)) := by
  rw [heap_setCell_same w b j _ T _ h]; simp
theorem Lb.frozen {w : World} {b : Nat} {T : TypeId} {X : Lk} {tv pv ov mv : Value} (h : Lb w b T X tv pv ov mv) (j : Nat) : w.frozen? ⟨b, j, none⟩ = false := Lib.frozen_of_heap h j
theorem sizeLQ {X : Lk} (hi : X.info.length = 32) (tv pv ov mv : Value) : (Tryz.prog.info? 29).map (·.size) = some (lcells X tv pv ov mv).toArray.size := by
  simp only [List.size_toArray, lcells_length hi]; exact Twin.sizeL
noncomputable def onlyP (P : Pk) : Option (List (Int × Int)) → Pk × Int
  | none => (P, 226)
  | some l => if T (apartP l) then ({ P with only := l }, 0) else (P, 227)
theorem own_mono {w : World} {B B' e s n : Nat} {v : Value} {xs : List Value} (h : w.ownsRow B e s v n xs) (hb : B' ≤ B) : w.ownsRow B' e s v n xs := by
  refine ⟨h.1, ?_⟩
  rcases h.2 with h' | ⟨g, cap, cur, e1, e2, e3⟩
  · exact Or.inl h'
  · exact Or.inr ⟨g, cap, cur, e1, Nat.le_trans hb e2, e3⟩
theorem whole_none : whole [] := fun i h => by simp at h

theorem run1_ok {l : List UInt8} {r : Int × Int} {rest : List UInt8} (h : run1 l = some (r, rest)) : 0 ≤ r.1 ∧ r.1 < 4096 ∧ 1 ≤ r.2 ∧ r.2 ≤ 4096 - r.1 ∧ rest.length < l.length := by
  unfold run1 at h
  cases hn : numS (digs l) with
  | none => rw [hn] at h; cases h
  | some a =>
    rw [hn] at h
    obtain ⟨ha, _, _, ha4, _, _⟩ := numS_some hn
    have hdp : 0 < (digs l).length := List.length_pos_iff.2 ha4
    have hdl : (digs l).length ≤ l.length := ((List.takeWhile_prefix _).trans (List.take_prefix _ _)).length_le
    simp only at h
    split at h
    · cases hn2 : numS (digs (l.drop (digs l).length).tail) with
      | none => rw [hn2] at h; cases h
      | some b =>
        rw [hn2] at h
        obtain ⟨hb, _⟩ := numS_some hn2
        simp only at h
        split at h
        · cases h
        · injection h with h
          injection h with h1 h2
          subst h1 h2
          simp; omega
    · injection h with h
      injection h with h1 h2
      subst h1 h2
      simp; omega
theorem runsF_ok : ∀ (f : Nat) (l : List UInt8) (r : List (Int × Int)), runsF f l = some r → whole r ∧ r.length ≤ l.length
  | 0, l, r, h => by simp [runsF] at h
  | f + 1, l, r, h => by
    rw [runsF] at h
    cases h1 : run1 l with
    | none => rw [h1] at h; cases h
    | some x =>
      obtain ⟨r0, rest⟩ := x
      rw [h1] at h
      obtain ⟨q1, q2, q3, q4, q5⟩ := run1_ok h1
      simp only at h
      cases rest with
      | nil =>
        simp only at h
        injection h with h
        subst h
        refine ⟨fun i hi => ?_, by simp at q5 ⊢; omega⟩
        obtain rfl : i = 0 := by simp at hi; omega
        exact ⟨q1, q2, q3, q4⟩
      | cons c rest' =>
        simp only at h
        split at h
        · obtain ⟨r', hr', rfl⟩ := Option.map_eq_some_iff.1 h
          obtain ⟨hw, hl⟩ := runsF_ok f rest' r' hr'
          refine ⟨fun i hi => ?_, by simp at q5 ⊢; omega⟩
          cases i with
          | zero => exact ⟨q1, q2, q3, q4⟩
          | succ i => exact hw i (by simp at hi; omega)
        · cases h
theorem runsS_ok {l : List UInt8} {r : List (Int × Int)} (h : runsS l = some r) : whole r ∧ r.length ≤ l.length := runsF_ok _ _ _ h

end Go.Proofs.YtdfiblaboddbjaaGreatDoor.Prs
