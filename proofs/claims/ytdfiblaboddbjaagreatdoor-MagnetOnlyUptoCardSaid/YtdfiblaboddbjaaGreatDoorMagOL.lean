/-
  A link under way in memory: four rows that the call owns.
-/
import Derived.Test.YtdfiblaboddbjaaGreatDoorMagPrsO
import Derived.Test.YtdfiblaboddbjaaGreatDoorMagOrd
import Derived.Deep.AppendLies
namespace Go.Proofs.YtdfiblaboddbjaaGreatDoor.Prs
open Go.RowKit Go.Proofs.YtdfiblaboddbjaaGreatDoor.Base Go.Proofs.YtdfiblaboddbjaaGreatDoor.Rep Go.Proofs.YtdfiblaboddbjaaGreatDoor.Mag Go.Proofs.YtdfiblaboddbjaaGreatDoor.Has
set_option linter.unusedVariables false
set_option linter.unusedSimpArgs false

def rows1 (l : List ByteArray) : List Value := (List.range l.length).flatMap (Twin.tx l)
theorem rows1_snoc (l : List ByteArray) (s : ByteArray) : rows1 (l ++ [s]) = rows1 l ++ [.string s] := by
  unfold rows1
  rw [List.length_append, List.length_singleton, flat_snoc, flat_congr (Twin.tx (l ++ [s])) (Twin.tx l) l.length (fun j hj => by simp [Twin.tx, List.getD, List.getElem?_append_left hj])]
  simp [Twin.tx, List.getD]
def px (l : List (ByteArray × ByteArray)) (j : Nat) : List Value := [.string (l.getD j (⟨#[]⟩, ⟨#[]⟩)).1, .int .i64 2, .int .i64 0, .string (l.getD j (⟨#[]⟩, ⟨#[]⟩)).2, .slice none 0 0, .slice none 0 0]
def rows6 (l : List (ByteArray × ByteArray)) : List Value := (List.range l.length).flatMap (px l)
theorem rows6_snoc (l : List (ByteArray × ByteArray)) (p : ByteArray × ByteArray) : rows6 (l ++ [p]) = rows6 l ++ [.string p.1, .int .i64 2, .int .i64 0, .string p.2, .slice none 0 0, .slice none 0 0] := by
  unfold rows6
  rw [List.length_append, List.length_singleton, flat_snoc, flat_congr (px (l ++ [p])) (px l) l.length (fun j hj => by simp [px, List.getD, List.getElem?_append_left hj])]
  simp [px, List.getD]

/-- Blocks of other kinds than the rows' stay as they are. -/
def KeptT (w w' : World) : Prop := w.heap.size ≤ w'.heap.size ∧ ∀ (q : Nat) (cs : Array Value) (T : TypeId) (fr : Nat × Nat), T ≠ 9 → T ≠ 43 → T ≠ 51 → w.heap[q]? = some (Obj.cells cs T fr) → w'.heap[q]? = some (Obj.cells cs T fr)
theorem KeptT.refl (w : World) : KeptT w w := ⟨Nat.le_refl _, fun _ _ _ _ _ _ _ h => h⟩
theorem KeptT.trans {w w1 w2 : World} (h : KeptT w w1) (k : KeptT w1 w2) : KeptT w w2 := ⟨Nat.le_trans h.1 k.1, fun q cs T fr a b c d => k.2 q cs T fr a b c (h.2 q cs T fr a b c d)⟩
theorem KeptT.of_below {w w' : World} (h : Below w.heap.size w w') : KeptT w w' := ⟨h.size, fun q cs T fr _ _ _ d => by
  rw [h.block q (Array.getElem?_eq_some_iff.1 d).1]; exact d⟩
theorem KeptT.grown {w w' : World} {B e size n : Nat} {v : Value} {xs : List Value} (ho : w.ownsRow B e size v n xs) (hg : w.grownBy w' v.ownBlock) (he : e = 9 ∨ e = 43 ∨ e = 51) : KeptT w w' := ⟨hg.size, fun q cs T fr a b c d => by
  rw [hg.block q (Array.getElem?_eq_some_iff.1 d).1 ?_]; exact d
  intro hq
  rcases ho.2 with ⟨rfl, _⟩ | ⟨g, cap, cur, rfl, _, hgb, _⟩
  · simp [Value.ownBlock] at hq
  · simp only [Value.ownBlock, Option.map_some, Option.some.injEq] at hq
    subst hq
    rw [d] at hgb
    injection hgb with h1
    injection h1 with h2 h3
    subst h3
    rcases he with h | h | h
    · exact a h
    · exact b h
    · exact c h⟩

/-- Rows of two kinds lie apart. -/
theorem own_apart {w : World} {B B' e e' s s' n n' : Nat} {v v' : Value} {xs xs' : List Value} (h : w.ownsRow B e s v n xs) (h' : w.ownsRow B' e' s' v' n' xs') (he : e ≠ e') : v.ownBlock = none ∨ v.ownBlock ≠ v'.ownBlock := by
  rcases h.2 with ⟨rfl, _⟩ | ⟨g, cap, cur, rfl, _, hg, _⟩
  · left; rfl
  · right
    rcases h'.2 with ⟨rfl, _⟩ | ⟨g', cap', cur', rfl, _, hg', _⟩
    · simp [Value.ownBlock]
    · simp only [Value.ownBlock, Option.map_some, ne_eq, Option.some.injEq]
      intro e1
      subst e1
      rw [hg] at hg'
      injection hg' with h1
      injection h1 with h2 h3
      exact he h3
theorem own_slice {w : World} {B e s n : Nat} {v : Value} {xs : List Value} (h : w.ownsRow B e s v n xs) : ∃ a c, v = .slice a n c ∧ n ≤ c ∧ c ≤ maxLen ∧ (a = none → c = 0) := by
  rcases h.2 with ⟨rfl, rfl⟩ | ⟨g, cap, cur, rfl, _, _, h1, h2, _⟩
  · exact ⟨_, _, rfl, Nat.le_refl _, Nat.zero_le _, fun _ => rfl⟩
  · exact ⟨_, _, rfl, h1, h2, fun h => by cases h⟩

structure OL (w : World) (B N : Nat) (P : Pk) (tv pv ov mv : Value) : Prop where
  info : P.info.length = 32
  name : P.name.size ≤ 1048576
  tr : w.ownsRow B 9 1 tv P.trackers.length (rows1 P.trackers)
  pe : w.ownsRow B 9 1 pv P.peers.length (rows1 P.peers)
  on : w.ownsRow B 43 2 ov P.only.length (rows2 P.only)
  mo : w.ownsRow B 51 6 mv P.more.length (rows6 P.more)
  tp : ∀ b, tv.ownBlock = some b → pv.ownBlock ≠ some b
  cnt : P.trackers.length ≤ N ∧ P.peers.length ≤ N ∧ P.more.length ≤ N ∧ P.only.length ≤ 1048576
  trs : ∀ s ∈ P.trackers, s.size ≤ 1048576
  pes : ∀ s ∈ P.peers, s.size ≤ 1048576
  mos : ∀ p ∈ P.more, p.1.size ≤ 1048576 ∧ p.2.size ≤ 1048576
  who : whole P.only

theorem OL.below {w w' : World} {B N : Nat} {P : Pk} {tv pv ov mv : Value} (h : OL w B N P tv pv ov mv) (hb : Below w.heap.size w w') : OL w' B N P tv pv ov mv :=
  ⟨h.info, h.name, ownsRow_below h.tr hb, ownsRow_below h.pe hb, ownsRow_below h.on hb, ownsRow_below h.mo hb, h.tp, h.cnt, h.trs, h.pes, h.mos, h.who⟩
theorem OL.more {w : World} {B N M : Nat} {P : Pk} {tv pv ov mv : Value} (h : OL w B N P tv pv ov mv) (hn : N ≤ M) : OL w B M P tv pv ov mv :=
  ⟨h.info, h.name, h.tr, h.pe, h.on, h.mo, h.tp, ⟨by have := h.cnt.1; omega, by have := h.cnt.2.1; omega, by have := h.cnt.2.2.1; omega, h.cnt.2.2.2⟩, h.trs, h.pes, h.mos, h.who⟩
theorem OL.slices {w : World} {B N : Nat} {P : Pk} {tv pv ov mv : Value} (h : OL w B N P tv pv ov mv) :
    (∃ a c, tv = .slice a P.trackers.length c) ∧ (∃ a c, pv = .slice a P.peers.length c) ∧ (∃ a c, ov = .slice a P.only.length c) ∧ (∃ a c, mv = .slice a P.more.length c) := by
  obtain ⟨a1, c1, h1, _⟩ := own_slice h.tr
  obtain ⟨a2, c2, h2, _⟩ := own_slice h.pe
  obtain ⟨a3, c3, h3, _⟩ := own_slice h.on
  obtain ⟨a4, c4, h4, _⟩ := own_slice h.mo
  exact ⟨⟨a1, c1, h1⟩, ⟨a2, c2, h2⟩, ⟨a3, c3, h3⟩, ⟨a4, c4, h4⟩⟩

/-- The whole link stored over a link's cells. -/
theorem OL.store {w : World} {B N : Nat} {P : Pk} {tv pv ov mv : Value} (h : OL w B N P tv pv ov mv) (w1 : World) (g : Nat) (old : Array Value) (hs : old.size = 37) (hg : w1.heap[g]? = some (.cells old 29 (0, 0))) :
    (storeCells ⟨g, 0, none⟩ (lcells P.lk tv pv ov mv)).run Tryz.prog w1 = .ok () (w1.setRow g (lcells P.lk tv pv ov mv).toArray) := by
  obtain ⟨⟨a1, c1, rfl⟩, ⟨a2, c2, rfl⟩, ⟨a3, c3, rfl⟩, ⟨a4, c4, rfl⟩⟩ := h.slices
  exact run_storeCells_list _ _ 29 _ _ hg (by rw [lcells_length (X := P.lk) h.info, hs]) (Twin.lcells_one _ _ _ _ _ _ _ _ _ _ _ _)
theorem OL.one {w : World} {B N : Nat} {P : Pk} {tv pv ov mv : Value} (h : OL w B N P tv pv ov mv) : ∀ u ∈ lcells P.lk tv pv ov mv, u.oneCell' = true := by
  obtain ⟨⟨a1, c1, rfl⟩, ⟨a2, c2, rfl⟩, ⟨a3, c3, rfl⟩, ⟨a4, c4, rfl⟩⟩ := h.slices
  exact Twin.lcells_one _ _ _ _ _ _ _ _ _ _ _ _

theorem OL.trs' {w : World} {B N : Nat} {P : Pk} {tv pv ov mv : Value} (h : OL w B N P tv pv ov mv) (hN : N ≤ 1048576) : RS w (fun b => B ≤ b) P.trackers tv :=
  Twin.RS.of_own h.tr (by have := h.cnt.1; omega) (fun j s hj => h.trs s (List.mem_of_getElem? hj))
theorem OL.pes' {w : World} {B N : Nat} {P : Pk} {tv pv ov mv : Value} (h : OL w B N P tv pv ov mv) (hN : N ≤ 1048576) : RS w (fun b => B ≤ b) P.peers pv :=
  Twin.RS.of_own h.pe (by have := h.cnt.2.1; omega) (fun j s hj => h.pes s (List.mem_of_getElem? hj))
theorem wf_small {n : Int} (h : -100000 ≤ n ∧ n ≤ 100000) : (Lit.int .i64 n).wf = true := by
  simp [Lit.wf, IntKind.min, IntKind.max, IntKind.bits, IntKind.signed]; omega
theorem rr_of_own {w : World} {B : Nat} {l : List (Int × Int)} {v : Value} (h : w.ownsRow B 43 2 v l.length (rows2 l)) (hl : l.length ≤ 1048576) (hw : whole l) : RR w (fun b => B ≤ b) l v :=
  Twin.RR.of_own h hl (fun j r hj => by
    obtain ⟨hlt, e⟩ := List.getElem?_eq_some_iff.1 hj
    have := hw j hlt
    rw [e] at this
    exact ⟨wf_small (by omega), wf_small (by omega)⟩)
theorem OL.mos' {w : World} {B N : Nat} {P : Pk} {tv pv ov mv : Value} (h : OL w B N P tv pv ov mv) (hN : N ≤ 1048576) : RP w (fun b => B ≤ b) P.lk.xn P.lk.xk P.lk.xv mv := by
  refine (owns_at (px P.more) (fun _ => rfl) h.mo (by decide) (by have := h.cnt.2.2.1; omega)).mono ?_
  rintro b o ⟨rfl, hb, hbl, -, hat⟩ j hj
  have hm := h.mos (P.more.getD j (⟨#[]⟩, ⟨#[]⟩)) (by
    have hj' : j < P.more.length := hj
    simp [List.getD, List.getElem?_eq_getElem hj'])
  refine ⟨_, ⟨hb, hbl, by simp only [Nat.zero_add]; exact hat j hj⟩, hm.1, ?_⟩
  exact ⟨_, _, rfl, hm.2, ⟨none, 0, rfl, Nat.le_refl _, ⟨Nat.zero_le _, Nat.zero_le _, fun _ => rfl⟩, Or.inl rfl⟩, ⟨none, 0, rfl, Nat.le_refl _, ⟨Nat.zero_le _, Nat.zero_le _, fun _ => rfl⟩, Or.inl rfl⟩⟩
theorem OL.rl {w : World} {B N : Nat} {P : Pk} {tv pv ov mv : Value} (h : OL w B N P tv pv ov mv) (hN : N ≤ 1048576) : RL w (fun b => B ≤ b) P.lk tv pv ov mv :=
  ⟨h.info, h.name, h.trs' hN, h.pes' hN, rr_of_own h.on h.cnt.2.2.2 h.who, h.mos' hN⟩

/-- The nil link. -/
theorem OL.bare (w : World) (B N : Nat) : OL w B N Pk.bare (.slice none 0 0) (.slice none 0 0) (.slice none 0 0) (.slice none 0 0) :=
  ⟨rfl, by decide, ⟨rfl, Or.inl ⟨rfl, rfl⟩⟩, ⟨rfl, Or.inl ⟨rfl, rfl⟩⟩, ⟨rfl, Or.inl ⟨rfl, rfl⟩⟩, ⟨rfl, Or.inl ⟨rfl, rfl⟩⟩, fun b h => (by simp [Value.ownBlock] at h),
    ⟨Nat.zero_le _, Nat.zero_le _, Nat.zero_le _, Nat.zero_le _⟩, fun s h => (by cases h), fun s h => (by cases h), fun s h => (by cases h), fun i h => (by simp [Pk.bare] at h)⟩

/-- A tracker more. -/
theorem OL.tracker {w w1 : World} {B N g cap : Nat} {P : Pk} {tv pv ov mv : Value} {s : ByteArray} {o : Obj} (h : OL w B N P tv pv ov mv) (hs : s.size ≤ 1048576)
    (hr : w1.ownsRow B 9 1 (.slice (some ⟨g, 0, none⟩) (P.trackers.length + 1) cap) (P.trackers.length + 1) (rows1 P.trackers ++ [.string s])) (hg : (w.alloc o).grownBy w1 tv.ownBlock) (hl : tv.ownBlock = some g ∨ g = (w.alloc o).heap.size) :
    OL w1 B (N + 1) { P with trackers := P.trackers ++ [s] } (.slice (some ⟨g, 0, none⟩) (P.trackers.length + 1) cap) pv ov mv := by
  have a2 := (h.pe.alloc o).kept hg (by
    cases hp : pv.ownBlock with
    | none => left; rfl
    | some b => right; intro e; exact h.tp b e.symm hp)
  have a3 := (h.on.alloc o).kept hg (own_apart h.on h.tr (by decide))
  have a4 := (h.mo.alloc o).kept hg (own_apart h.mo h.tr (by decide))
  refine ⟨h.info, h.name, ?_, a2, a3, a4, fun b hb hp => ?_, ⟨by simpa using h.cnt.1, by have := h.cnt.2.1; show P.peers.length ≤ N + 1; omega, by have := h.cnt.2.2.1; show P.more.length ≤ N + 1; omega, h.cnt.2.2.2⟩, fun x hx => ?_, h.pes, h.mos, h.who⟩
  · show w1.ownsRow B _ 1 _ (P.trackers ++ [s]).length (rows1 (P.trackers ++ [s]))
    rw [rows1_snoc, List.length_append]; exact hr
  · simp only [Value.ownBlock, Option.map_some, Option.some.injEq] at hb
    subst hb
    rcases hl with e | e
    · exact h.tp _ e hp
    · have := (h.pe.lt _ hp).2
      simp at e; omega
  · rcases List.mem_append.1 hx with hx | hx
    · exact h.trs x hx
    · rw [List.mem_singleton.1 hx]; exact hs
/-- A peer more. -/
theorem OL.peer {w w1 : World} {B N g cap : Nat} {P : Pk} {tv pv ov mv : Value} {s : ByteArray} {o : Obj} (h : OL w B N P tv pv ov mv) (hs : s.size ≤ 1048576)
    (hr : w1.ownsRow B 9 1 (.slice (some ⟨g, 0, none⟩) (P.peers.length + 1) cap) (P.peers.length + 1) (rows1 P.peers ++ [.string s])) (hg : (w.alloc o).grownBy w1 pv.ownBlock) (hl : pv.ownBlock = some g ∨ g = (w.alloc o).heap.size) :
    OL w1 B (N + 1) { P with peers := P.peers ++ [s] } tv (.slice (some ⟨g, 0, none⟩) (P.peers.length + 1) cap) ov mv := by
  have a1 := (h.tr.alloc o).kept hg (by
    cases hp : tv.ownBlock with
    | none => left; rfl
    | some b => right; intro e; exact h.tp b hp e.symm)
  have a3 := (h.on.alloc o).kept hg (own_apart h.on h.pe (by decide))
  have a4 := (h.mo.alloc o).kept hg (own_apart h.mo h.pe (by decide))
  refine ⟨h.info, h.name, a1, ?_, a3, a4, fun b hb hp => ?_, ⟨by have := h.cnt.1; show P.trackers.length ≤ N + 1; omega, by simpa using h.cnt.2.1, by have := h.cnt.2.2.1; show P.more.length ≤ N + 1; omega, h.cnt.2.2.2⟩, h.trs, fun x hx => ?_, h.mos, h.who⟩
  · show w1.ownsRow B _ 1 _ (P.peers ++ [s]).length (rows1 (P.peers ++ [s]))
    rw [rows1_snoc, List.length_append]; exact hr
  · simp only [Value.ownBlock, Option.map_some, Option.some.injEq] at hp
    subst hp
    rcases hl with e | e
    · exact h.tp _ hb e
    · have := (h.tr.lt _ hb).2
      simp at e; omega
  · rcases List.mem_append.1 hx with hx | hx
    · exact h.pes x hx
    · rw [List.mem_singleton.1 hx]; exact hs
/-- A pair more. -/
theorem OL.pair {w w1 : World} {B N g cap : Nat} {P : Pk} {tv pv ov mv : Value} {k s : ByteArray} {o : Obj} (h : OL w B N P tv pv ov mv) (hk : k.size ≤ 1048576) (hs : s.size ≤ 1048576)
    (hr : w1.ownsRow B 51 6 (.slice (some ⟨g, 0, none⟩) (P.more.length + 1) cap) (P.more.length + 1) (rows6 P.more ++ [.string k, .int .i64 2, .int .i64 0, .string s, .slice none 0 0, .slice none 0 0])) (hg : (w.alloc o).grownBy w1 mv.ownBlock) :
    OL w1 B (N + 1) { P with more := P.more ++ [(k, s)] } tv pv ov (.slice (some ⟨g, 0, none⟩) (P.more.length + 1) cap) := by
  have a1 := (h.tr.alloc o).kept hg (own_apart h.tr h.mo (by decide))
  have a2 := (h.pe.alloc o).kept hg (own_apart h.pe h.mo (by decide))
  have a3 := (h.on.alloc o).kept hg (own_apart h.on h.mo (by decide))
  refine ⟨h.info, h.name, a1, a2, a3, ?_, h.tp, ⟨by have := h.cnt.1; show P.trackers.length ≤ N + 1; omega, by have := h.cnt.2.1; show P.peers.length ≤ N + 1; omega, by simpa using h.cnt.2.2.1, h.cnt.2.2.2⟩, h.trs, h.pes, fun x hx => ?_, h.who⟩
  · show w1.ownsRow B _ 6 _ (P.more ++ [(k, s)]).length (rows6 (P.more ++ [(k, s)]))
    rw [rows6_snoc, List.length_append]; exact hr
  · rcases List.mem_append.1 hx with hx | hx
    · exact h.mos x hx
    · rw [List.mem_singleton.1 hx]; exact ⟨hk, hs⟩

end Go.Proofs.YtdfiblaboddbjaaGreatDoor.Prs
