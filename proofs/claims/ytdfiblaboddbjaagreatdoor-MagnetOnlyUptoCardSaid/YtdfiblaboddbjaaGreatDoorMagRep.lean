/-
  How a bencoded value and a link lie in memory.
-/
import Derived.Test.YtdfiblaboddbjaaGreatDoorBase
import Derived.Deep.MidRow
namespace Go.Proofs.YtdfiblaboddbjaaGreatDoor.Rep
open Go.RowKit Go.Proofs.YtdfiblaboddbjaaGreatDoor.Base
set_option linter.unusedVariables false
set_option linter.unusedSimpArgs false

/-- A value: kind, number, text, n values, m pairs; 'leaf' stands behind a list's end and is no value. -/
inductive V where
  | mk (k i : Int) (s : ByteArray) (n : Nat) (l : Nat → V) (m : Nat) (dk : Nat → ByteArray) (dv : Nat → V)
  | leaf

/-- From o on in block b, which is one of those, these cells lie. -/
def At (w : World) (ok : Nat → Prop) (b o : Nat) (cs : List Value) : Prop := ok b ∧ b < w.heap.size ∧ w.rangeAt b o cs

/-- A slice of n elements. -/
def Sl (v : Value) (n : Nat) (A : Nat → Nat → Prop) : Prop := ∃ a c, v = .slice a n c ∧ n ≤ c ∧ (c ≤ maxLen ∧ n ≤ 1048576 ∧ (a = none → c = 0)) ∧ (n = 0 ∨ ∃ b o, a = some ⟨b, o, none⟩ ∧ A b o)

def RV (w : World) (ok : Nat → Prop) : V → List Value → Prop
  | .leaf, _ => False
  | .mk k i s n l m dk dv, cs => ∃ lv xv, cs = [.int .i64 k, .int .i64 i, .string s, lv, xv] ∧ s.size ≤ 1048576 ∧
      Sl lv n (fun b o => ∀ j, j < n → ∃ c, At w ok b (o + j * 5) c ∧ RV w ok (l j) c) ∧
      Sl xv m (fun b o => ∀ j, j < m → ∃ c, At w ok b (o + j * 6) (.string (dk j) :: c) ∧ (dk j).size ≤ 1048576 ∧ RV w ok (dv j) c)

/-- Blocks of that kind that were there are as they were. -/
def Keeps (ok : Nat → Prop) (w w' : World) : Prop := w.heap.size ≤ w'.heap.size ∧ ∀ k, ok k → k < w.heap.size → w'.heap[k]? = w.heap[k]?

theorem Keeps.refl (ok : Nat → Prop) (w : World) : Keeps ok w w := ⟨Nat.le_refl _, fun _ _ _ => rfl⟩
theorem Keeps.trans {ok : Nat → Prop} {a b c : World} (h : Keeps ok a b) (k : Keeps ok b c) : Keeps ok a c :=
  ⟨Nat.le_trans h.1 k.1, fun i hi hl => (k.2 i hi (Nat.lt_of_lt_of_le hl h.1)).trans (h.2 i hi hl)⟩
theorem Keeps.of_below {ok : Nat → Prop} {w w' : World} (h : Below w.heap.size w w') : Keeps ok w w' := ⟨h.size, fun k _ hk => h.block k hk⟩
theorem Keeps.of_below_lt {ok : Nat → Prop} {B : Nat} {w w' : World} (h : Below B w w') (ho : ∀ k, ok k → k < B) : Keeps ok w w' := ⟨h.size, fun k hk _ => h.block k (ho k hk)⟩
theorem Keeps.grown {ok : Nat → Prop} {w w' : World} {row : Option Nat} (h : w.grownBy w' row) (ho : ∀ k, row = some k → ¬ ok k) : Keeps ok w w' :=
  ⟨h.size, fun k hk hl => h.block k hl (fun e => ho k e.symm hk)⟩
theorem Keeps.mono {ok ok' : Nat → Prop} {w w' : World} (h : Keeps ok w w') (ho : ∀ k, ok' k → ok k) : Keeps ok' w w' := ⟨h.1, fun k hk hl => h.2 k (ho k hk) hl⟩

theorem At.keep {w w' : World} {ok : Nat → Prop} {b o : Nat} {cs : List Value} (h : At w ok b o cs) (hk : Keeps ok w w') : At w' ok b o cs := by
  obtain ⟨h1, h2, h3⟩ := h
  refine ⟨h1, Nat.lt_of_lt_of_le h2 hk.1, fun j v hj => ?_⟩
  rw [World.cell?_of_block (w := w) (hk.2 b h1 h2)]
  exact h3 j v hj
theorem At.mono {w : World} {ok ok' : Nat → Prop} {b o : Nat} {cs : List Value} (h : At w ok b o cs) (ho : ∀ k, ok k → k < w.heap.size → ok' k) : At w ok' b o cs := ⟨ho _ h.1 h.2.1, h.2.1, h.2.2⟩
theorem At.cell {w : World} {ok : Nat → Prop} {b o : Nat} {cs : List Value} (h : At w ok b o cs) (j : Nat) {v : Value} (hj : cs[j]? = some v) : w.cell? ⟨b, o + j, none⟩ = some v := h.2.2 j v hj

theorem Sl.mono {v : Value} {n : Nat} {A A' : Nat → Nat → Prop} (h : Sl v n A) (ha : ∀ b o, A b o → A' b o) : Sl v n A' := by
  obtain ⟨a, c, rfl, h1, h2, h3⟩ := h
  refine ⟨a, c, rfl, h1, h2, ?_⟩
  rcases h3 with h3 | ⟨b, o, rfl, h3⟩
  · exact Or.inl h3
  · exact Or.inr ⟨b, o, rfl, ha _ _ h3⟩

theorem RV.keep {w w' : World} {ok : Nat → Prop} (hk : Keeps ok w w') : ∀ (x : V) (cs : List Value), RV w ok x cs → RV w' ok x cs := by
  intro x
  induction x with
  | leaf => intro cs h; exact (h : False).elim
  | mk k i s n l m dk dv ihl ihd =>
    intro cs h
    obtain ⟨lv, xv, rfl, hs, h1, h2⟩ := h
    refine ⟨lv, xv, rfl, hs, h1.mono fun b o h j hj => ?_, h2.mono fun b o h j hj => ?_⟩
    · obtain ⟨c, hc, hr⟩ := h j hj
      exact ⟨c, hc.keep hk, ihl j c hr⟩
    · obtain ⟨c, hc, hz, hr⟩ := h j hj
      exact ⟨c, hc.keep hk, hz, ihd j c hr⟩
theorem RV.mono {w : World} {ok ok' : Nat → Prop} (ho : ∀ k, ok k → k < w.heap.size → ok' k) : ∀ (x : V) (cs : List Value), RV w ok x cs → RV w ok' x cs := by
  intro x
  induction x with
  | leaf => intro cs h; exact (h : False).elim
  | mk k i s n l m dk dv ihl ihd =>
    intro cs h
    obtain ⟨lv, xv, rfl, hs, h1, h2⟩ := h
    refine ⟨lv, xv, rfl, hs, h1.mono fun b o h j hj => ?_, h2.mono fun b o h j hj => ?_⟩
    · obtain ⟨c, hc, hr⟩ := h j hj
      exact ⟨c, hc.mono ho, ihl j c hr⟩
    · obtain ⟨c, hc, hz, hr⟩ := h j hj
      exact ⟨c, hc.mono ho, hz, ihd j c hr⟩

theorem RV.length {w : World} {ok : Nat → Prop} {x : V} {cs : List Value} (h : RV w ok x cs) : cs.length = 5 := by
  cases x with
  | leaf => exact (h : False).elim
  | mk k i s n l m dk dv => obtain ⟨lv, xv, rfl, _⟩ := h; rfl
theorem RV.oneCell {w : World} {ok : Nat → Prop} {x : V} {cs : List Value} (h : RV w ok x cs) : ∀ u ∈ cs, u.oneCell' = true := by
  cases x with
  | leaf => exact (h : False).elim
  | mk k i s n l m dk dv => obtain ⟨lv, xv, rfl, _, ⟨_, _, rfl, _⟩, ⟨_, _, rfl, _⟩⟩ := h; simp [Value.oneCell']

theorem list5 {cs : List Value} (h : cs.length = 5) : ∃ c0 c1 c2 c3 c4, cs = [c0, c1, c2, c3, c4] := by
  match cs, h with
  | [c0, c1, c2, c3, c4], _ => exact ⟨c0, c1, c2, c3, c4, rfl⟩

/-- m pairs. -/
def RP (w : World) (ok : Nat → Prop) (m : Nat) (dk : Nat → ByteArray) (dv : Nat → V) (v : Value) : Prop :=
  Sl v m (fun b o => ∀ j, j < m → ∃ c, At w ok b (o + j * 6) (.string (dk j) :: c) ∧ (dk j).size ≤ 1048576 ∧ RV w ok (dv j) c)
theorem RP.keep {w w' : World} {ok : Nat → Prop} {m : Nat} {dk : Nat → ByteArray} {dv : Nat → V} {v : Value} (h : RP w ok m dk dv v) (hk : Keeps ok w w') : RP w' ok m dk dv v :=
  Sl.mono h fun b o h j hj => by obtain ⟨c, hc, hz, hr⟩ := h j hj; exact ⟨c, hc.keep hk, hz, RV.keep hk _ _ hr⟩
theorem RP.mono {w : World} {ok ok' : Nat → Prop} {m : Nat} {dk : Nat → ByteArray} {dv : Nat → V} {v : Value} (h : RP w ok m dk dv v) (ho : ∀ k, ok k → k < w.heap.size → ok' k) : RP w ok' m dk dv v :=
  Sl.mono h fun b o h j hj => by obtain ⟨c, hc, hz, hr⟩ := h j hj; exact ⟨c, hc.mono ho, hz, RV.mono ho _ _ hr⟩
theorem Keeps.setCell {ok : Nat → Prop} {w w' : World} (h : Keeps ok w w') (a : Addr) (v : Value) (ha : ¬ ok a.block) : Keeps ok w (w'.setCell a v) :=
  ⟨by simpa using h.1, fun k hk hl => (Below.heap_setCell w' a v k (fun e => ha (e ▸ hk))).trans (h.2 k hk hl)⟩
theorem Keeps.alloc {ok : Nat → Prop} {w w' : World} (h : Keeps ok w w') (o : Obj) : Keeps ok w (w'.alloc o) :=
  h.trans (Keeps.of_below ((Below.refl _ _).alloc (Nat.le_refl _) _))
/-- n texts. -/
def RS (w : World) (ok : Nat → Prop) (l : List ByteArray) (v : Value) : Prop :=
  Sl v l.length (fun b o => ∀ j s, l[j]? = some s → At w ok b (o + j) [.string s] ∧ s.size ≤ 1048576)
theorem RS.keep {w w' : World} {ok : Nat → Prop} {l : List ByteArray} {v : Value} (h : RS w ok l v) (hk : Keeps ok w w') : RS w' ok l v :=
  Sl.mono h fun b o h j s hj => ⟨(h j s hj).1.keep hk, (h j s hj).2⟩
/-- runs. -/
def RR (w : World) (ok : Nat → Prop) (l : List (Int × Int)) (v : Value) : Prop :=
  Sl v l.length (fun b o => ∀ j r, l[j]? = some r → At w ok b (o + j * 2) [.int .i64 r.1, .int .i64 r.2] ∧ (Lit.int .i64 r.1).wf = true ∧ (Lit.int .i64 r.2).wf = true)
theorem RR.keep {w w' : World} {ok : Nat → Prop} {l : List (Int × Int)} {v : Value} (h : RR w ok l v) (hk : Keeps ok w w') : RR w' ok l v :=
  Sl.mono h fun b o h j s hj => ⟨(h j s hj).1.keep hk, (h j s hj).2⟩

/-- An owned row of elements, read as a slice. -/
theorem owns_at {w : World} {B e size : Nat} {v : Value} {n : Nat} (f : Nat → List Value) (hf : ∀ j, (f j).length = size) (h : w.ownsRow B e size v n ((List.range n).flatMap f)) (hsz : 0 < size)
    (hn20 : n ≤ 1048576) : Sl v n (fun b o => o = 0 ∧ B ≤ b ∧ b < w.heap.size ∧ v.ownBlock = some b ∧ ∀ j, j < n → w.rangeAt b (j * size) (f j)) := by
  obtain ⟨hl, h⟩ := h
  rcases h with ⟨rfl, rfl⟩ | ⟨g, cap, cur, rfl, hB, hg, hn, hc, hz, hx⟩
  · exact ⟨none, 0, rfl, Nat.le_refl _, ⟨Nat.zero_le _, hn20, fun _ => rfl⟩, Or.inl rfl⟩
  · refine ⟨some ⟨g, 0, none⟩, cap, rfl, hn, ⟨hc, hn20, fun h => by cases h⟩, Or.inr ⟨g, 0, rfl, rfl, hB, (Array.getElem?_eq_some_iff.1 hg).1, rfl, fun j hj i u hi => ?_⟩⟩
    have hil : i < size := by
      rcases Nat.lt_or_ge i size with h' | h'
      · exact h'
      · rw [List.getElem?_eq_none (by rw [hf j]; exact h')] at hi; cases hi
    have hlt : j * size + i < n * size := by
      have := Nat.mul_le_mul_right size (show j + 1 ≤ n by omega)
      rw [Nat.succ_mul] at this; omega
    have h2 : (cur.toList.take (n * size))[j * size + i]? = cur[j * size + i]? := by rw [List.getElem?_take_of_lt hlt]; simp
    rw [hx, flat_get f size hf n j i hj hil, hi] at h2
    simp only [World.cell?, hg]
    simp [← h2]

/-- A link. -/
structure Lk where
  info : List UInt8
  name : ByteArray
  trackers : List ByteArray
  peers : List ByteArray
  only : List (Int × Int)
  xn : Nat
  xk : Nat → ByteArray
  xv : Nat → V

def lcells (X : Lk) (tv pv ov mv : Value) : List Value := X.info.map (fun b => Value.int .u8 b.toNat) ++ [.string X.name, tv, pv, ov, mv]

structure RL (w : World) (ok : Nat → Prop) (X : Lk) (tv pv ov mv : Value) : Prop where
  info : X.info.length = 32
  name : X.name.size ≤ 1048576
  trackers : RS w ok X.trackers tv
  peers : RS w ok X.peers pv
  only : RR w ok X.only ov
  more : RP w ok X.xn X.xk X.xv mv

theorem RL.keep {w w' : World} {ok : Nat → Prop} {X : Lk} {tv pv ov mv : Value} (h : RL w ok X tv pv ov mv) (hk : Keeps ok w w') : RL w' ok X tv pv ov mv :=
  ⟨h.info, h.name, h.trackers.keep hk, h.peers.keep hk, h.only.keep hk, h.more.keep hk⟩
theorem lcells_length {X : Lk} (h : X.info.length = 32) (tv pv ov mv : Value) : (lcells X tv pv ov mv).length = 37 := by simp [lcells, h]
theorem lcells_32 {X : Lk} (h : X.info.length = 32) (tv pv ov mv : Value) : (lcells X tv pv ov mv)[32]? = some (.string X.name) := by simp [lcells, List.getElem?_append, h]
theorem lcells_33 {X : Lk} (h : X.info.length = 32) (tv pv ov mv : Value) : (lcells X tv pv ov mv)[33]? = some tv := by simp [lcells, List.getElem?_append, h]
theorem lcells_34 {X : Lk} (h : X.info.length = 32) (tv pv ov mv : Value) : (lcells X tv pv ov mv)[34]? = some pv := by simp [lcells, List.getElem?_append, h]
theorem lcells_35 {X : Lk} (h : X.info.length = 32) (tv pv ov mv : Value) : (lcells X tv pv ov mv)[35]? = some ov := by simp [lcells, List.getElem?_append, h]
theorem lcells_36 {X : Lk} (h : X.info.length = 32) (tv pv ov mv : Value) : (lcells X tv pv ov mv)[36]? = some mv := by simp [lcells, List.getElem?_append, h]

theorem lcells_info {X : Lk} (h : X.info.length = 32) (tv pv ov mv : Value) (j : Nat) (u : Value) (hu : (X.info.map fun b => Value.int .u8 (b.toNat : Int))[j]? = some u) : (lcells X tv pv ov mv)[j]? = some u := by
  have : j < 32 := by
    rcases Nat.lt_or_ge j 32 with h' | h'
    · exact h'
    · rw [List.getElem?_eq_none (by simp [h, h'])] at hu; cases hu
  rw [lcells, List.getElem?_append_left (by simp [h, this])]
  exact hu
/-- A link's cells in a block of its own. -/
def Lb (w : World) (b : Nat) (T : TypeId) (X : Lk) (tv pv ov mv : Value) : Prop := w.heap[b]? = some (.cells (lcells X tv pv ov mv).toArray T (0, 0))
theorem Lb.cell {w : World} {b : Nat} {T : TypeId} {X : Lk} {tv pv ov mv : Value} (h : Lb w b T X tv pv ov mv) (j : Nat) : w.cell? ⟨b, j, none⟩ = (lcells X tv pv ov mv)[j]? := by
  rw [Lib.cell_of_heap h]; simp
theorem Lb.lt {w : World} {b : Nat} {T : TypeId} {X : Lk} {tv pv ov mv : Value} (h : Lb w b T X tv pv ov mv) : b < w.heap.size := (Array.getElem?_eq_some_iff.1 h).1
theorem Lb.below {w w' : World} {b : Nat} {T : TypeId} {X : Lk} {tv pv ov mv : Value} (h : Lb w b T X tv pv ov mv) (hb : Below w.heap.size w w') : Lb w' b T X tv pv ov mv := (hb.block b h.lt).trans h
theorem Lb.new (w : World) (T : TypeId) (X : Lk) (tv pv ov mv : Value) : Lb (w.alloc (.cells (lcells X tv pv ov mv).toArray T)) w.heap.size T X tv pv ov mv := Go.heap_alloc_new _ _

theorem Lb.info {w : World} {b : Nat} {T : TypeId} {X : Lk} {tv pv ov mv : Value} (h : Lb w b T X tv pv ov mv) (hi : X.info.length = 32) : w.rangeAt b 0 (X.info.map fun b => Value.int .u8 (b.toNat : Int)) := fun j u hu => by
  rw [show (0 + j) = j by omega, h.cell j]; exact lcells_info hi tv pv ov mv j u hu

end Go.Proofs.YtdfiblaboddbjaaGreatDoor.Rep
