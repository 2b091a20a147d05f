/-
  Small laws over any program: a builder and an owned row stay as they are while new memory is made; bytes of an owned row as a string; one value appended to an owned row.
-/
import Derived.Lib.Builder
import Derived.Lib.UnsafeStr
import Derived.Lib.Hide
import Derived.WalkKit
import Derived.Laws.Tables
import Derived.Laws.Rows
import Derived.Maps.AppendAt
import Derived.Laws.AppendOwnNone
import Derived.Stop.BytesEq
import Derived.Deep.AppendLies
import Derived.Deep.Draws
namespace Go.Proofs.YtdfiblaboddbjaaGreatDoor.Base
open Go.RowKit
set_option linter.unusedVariables false
set_option linter.unusedSimpArgs false

theorem below_of_drew {w w' : World} (h : Below w.drew.heap.size w.drew w') : Below w.heap.size w w' := ⟨h.os, h.tape, h.output, h.size, h.block⟩
theorem below_N {B : Nat} {a w : World} (h : Below B a w) (n : Nat) : Below B a (w.drewN n) := h.trans ⟨rfl, rfl, rfl, Nat.le_refl _, fun _ _ => rfl⟩
theorem below_of_N {w w' : World} {n : Nat} (h : Below (w.drewN n).heap.size (w.drewN n) w') : Below w.heap.size w w' := ⟨h.os, h.tape, h.output, h.size, h.block⟩
theorem ownsRow_below {B e size : Nat} {v : Value} {n : Nat} {xs : List Value} {w w' : World} (h : w.ownsRow B e size v n xs) (hb : Below w.heap.size w w') : w'.ownsRow B e size v n xs :=
  h.kept (row := none) ⟨hb.os, hb.tape, hb.output, hb.size, fun k hk _ => hb.block k hk⟩ (Classical.em _)

theorem isBuilder_below {T e : TypeId} {B b : Nat} {bs : List Value} {w w' : World} (h : Lib.IsBuilder T e B b bs w) (hb : Below w.heap.size w w') : Lib.IsBuilder T e B b bs w' := by
  have key : ∀ p, Lib.BuilderAt T e B b p bs w → Lib.BuilderAt T e B b p bs w' := by
    intro p hp
    have hlt := hp.lt
    obtain ⟨hB, v, hbk, hown, hne⟩ := hp
    exact ⟨hB, v, by rw [hb.block b hlt]; exact hbk, ownsRow_below hown hb, hne⟩
  rcases h with h | h
  · exact Or.inl (key _ h)
  · exact Or.inr (key _ h)

/-- A builder in a block of its own, at the start. -/
theorem isBuilder_new (T e : TypeId) (w : World) : Lib.IsBuilder T e w.heap.size w.heap.size [] (w.alloc (.cells #[.pointer none, .slice none 0 0] T)) :=
  Or.inl ⟨Nat.le_refl _, .slice none 0 0, Go.heap_alloc_new _ _, ⟨rfl, Or.inl ⟨rfl, rfl⟩⟩, by simp [Value.ownBlock]⟩

theorem take_snoc (s : ByteArray) (k : Nat) (h : k < s.size) : s.data.toList.take (k + 1) = s.data.toList.take k ++ [s[k]] := by
  rw [List.take_succ_eq_append_getElem (by simpa using h)]; rfl
theorem take_all (s : ByteArray) (k : Nat) (h : ¬ k < s.size) : s.data.toList.take k = s.data.toList := List.take_of_length_le (by simp; omega)

/-- string(b) of an owned row of bytes -/
theorem conv_own {P : Program} {src dst e : TypeId} (hs : P.underlying src = some (.slice e)) (he : P.underlying e = some (.int .u8)) (hd : P.underlying dst = some .string)
    {B : Nat} {v : Value} {l : List UInt8} {n : Nat} (w : World) (h : w.ownsRow B e 1 v n (Lib.byteCells l)) :
    (convert src dst v).run P w = .ok (.string ⟨l.toArray⟩) w := by
  obtain ⟨hl, h⟩ := h
  rcases h with ⟨rfl, rfl⟩ | ⟨g, cap, cur, rfl, hB, hg, hn, hc, hz, hx⟩
  · have : l = [] := by simpa [Lib.byteCells] using hl
    subst this
    rw [run_convert_bytes_string w src dst e none 0 0 hs he hd]
    rfl
  · have hln : l.length = n := by simpa [Lib.byteCells] using hl
    have hcell : ∀ i, i < n → w.cell? ⟨g, 0 + i, none⟩ = some (.int .u8 ((l.map fun b => (b.toNat : Int)).getD i 0)) := by
      intro i hi
      have h1 : cur[i]? = some (.int .u8 (l[i]'(by omega)).toNat) := by
        have h2 : (cur.toList.take (n * 1))[i]? = cur[i]? := by rw [List.getElem?_take_of_lt (by omega)]; simp
        rw [← h2, hx]
        simp [Lib.byteCells, List.getElem?_eq_getElem (show i < l.length by omega)]
      simp only [World.cell?, hg]
      simp [h1, List.getD, List.getElem?_eq_getElem (show i < l.length by omega)]
    rw [run_convert_bytes_arg w src e hs he g 0 n cap (l.map fun b => (b.toNat : Int)) (by simpa using hln) hcell dst hd]
    simp [strOfNums, Function.comp_def]

/-- One one-cell value appended to an owned row. -/
theorem wpList_app1 {P : Program} {w : World} {ops : Array Oper} {rest : List Oper} {o : Oper} {a : Act} {Q : Exit → Act → World → Prop} (hgd : o.guard = none) (s x : Operand) (t : TypeId)
    (ho : o.op = .call { callee := .builtin .append, args := #[s, x], argTypes := #[t, t] })
    (base : Nat) (e : TypeId) (z : Value) (bytes : Nat) (hi : (P.info? e).map (fun i => (i.zero, i.size, i.bytes)) = some (some z, 1, bytes)) (hz1 : z.cells.size = 1) (ht : P.underlying t = some (.slice e))
    (v : Value) (n : Nat) (xs : List Value) (hs : a.eval s = v) (hown : w.ownsRow base e 1 v n xs)
    (g : Nat) (u : Value) (hx : a.eval x = .slice (some ⟨g, 0, none⟩) 1 1) (hnew : w.cell? ⟨g, 0, none⟩ = some u) (h1 : u.oneCell' = true)
    (h63 : n + 1 ≤ maxLen) (hbytes : (n + 1) * bytes ≤ 140737488355328) (hbase : base ≤ w.heap.size)
    (h : ∀ g' cap w', w'.ownsRow base e 1 (.slice (some ⟨g', 0, none⟩) (n + 1) cap) (n + 1) (xs ++ [u]) → Below base w w' → w.grownBy w' v.ownBlock → wpList P ops Q rest (a.put o.dst (.slice (some ⟨g', 0, none⟩) (n + 1) cap)) w') : wpList P ops Q (o :: rest) a w := by
  obtain ⟨i0, hi0, hz0, hzz1, hz2⟩ := info_parts hi
  refine wpList_append_own w hgd s x t ho base e i0 z 1 bytes ht hi0 hz0 hzz1 hz2 hz1 (by decide) v n xs hs hown ⟨g, 0, none⟩ 1 1 [u] hx rfl ?_ ?_ h63 hbytes hbase ?_
  · intro j y hj
    match j, hj with
    | 0, hj => simp at hj; subst hj; simpa [Addr.add] using hnew
  · intro y hy; simp at hy; subst hy; exact h1
  · intro v' w' hown' hgrow _
    obtain ⟨g', cap, rfl⟩ : ∃ g' cap, v' = .slice (some ⟨g', 0, none⟩) (n + 1) cap := by
      rcases hown'.2 with ⟨_, h0⟩ | ⟨g', cap, cur, hv, _⟩
      · omega
      · exact ⟨g', cap, hv⟩
    exact h g' cap w' hown' ((Below.refl base w).grown hgrow hbase (fun k hk => (hown.lt k hk).1)) hgrow

/-- A row that lies at the head of a block, appended to an owned row. -/
theorem wpList_appM {P : Program} {w : World} {ops : Array Oper} {rest : List Oper} {o : Oper} {a : Act} {Q : Exit → Act → World → Prop} (hgd : o.guard = none) (s x : Operand) (t : TypeId)
    (ho : o.op = .call { callee := .builtin .append, args := #[s, x], argTypes := #[t, t] })
    (base : Nat) (e : TypeId) (z : Value) (bytes : Nat) (hi : (P.info? e).map (fun i => (i.zero, i.size, i.bytes)) = some (some z, 1, bytes)) (hz1 : z.cells.size = 1) (ht : P.underlying t = some (.slice e))
    (v : Value) (n : Nat) (xs : List Value) (hs : a.eval s = v) (hown : w.ownsRow base e 1 v n xs)
    (g m c : Nat) (cs : Array Value) (e' : TypeId) (fr : Nat × Nat) (hx : a.eval x = .slice (some ⟨g, 0, none⟩) m c) (hnew : w.heap[g]? = some (.cells cs e' fr)) (hm : m ≤ cs.size) (h1 : ∀ u ∈ cs.toList.take m, u.oneCell' = true)
    (h63 : n + m ≤ maxLen) (hbytes : (n + m) * bytes ≤ 140737488355328) (hbase : base ≤ w.heap.size)
    (h : ∀ v' w', w'.ownsRow base e 1 v' (n + m) (xs ++ cs.toList.take m) → Below base w w' → w.grownBy w' v.ownBlock → wpList P ops Q rest (a.put o.dst v') w') : wpList P ops Q (o :: rest) a w := by
  obtain ⟨i0, hi0, hz0, hzz1, hz2⟩ := info_parts hi
  refine wpList_append_own w hgd s x t ho base e i0 z 1 bytes ht hi0 hz0 hzz1 hz2 hz1 (by decide) v n xs hs hown ⟨g, 0, none⟩ m c (cs.toList.take m) hx (by simp; omega) ?_ h1 h63 hbytes hbase ?_
  · intro j y hj
    have hjm : j < m := by
      rcases Nat.lt_or_ge j m with h | h
      · exact h
      · simp [List.getElem?_take, Nat.not_lt.2 h] at hj
    have hj' : cs[j]? = some y := by rw [List.getElem?_take_of_lt hjm] at hj; simpa using hj
    have ha : (⟨g, 0, none⟩ : Addr).add j = ⟨g, j, none⟩ := by unfold Addr.add; split <;> simp_all
    rw [ha]
    simp [World.cell?, hnew, hj']
  · intro v' w' hown' hgrow _
    exact h v' w' hown' ((Below.refl base w).grown hgrow hbase (fun k hk => (hown.lt k hk).1)) hgrow

/-- The same inside a region that draws its order (go_region_held3's third argument). -/
theorem step_appM {P : Program} {w : World} {ops : Array Oper} {o : Oper} {a : Act} {K : Act → World → Prop} {Q : Exit → Act → World → Prop} {E : Prop} (hgd : o.guard = none) (s x : Operand) (t : TypeId)
    (ho : o.op = .call { callee := .builtin .append, args := #[s, x], argTypes := #[t, t] })
    (base : Nat) (e : TypeId) (z : Value) (bytes : Nat) (hi : (P.info? e).map (fun i => (i.zero, i.size, i.bytes)) = some (some z, 1, bytes)) (hz1 : z.cells.size = 1) (ht : P.underlying t = some (.slice e))
    (v : Value) (n : Nat) (xs : List Value) (hs : a.eval s = v) (hown : w.ownsRow base e 1 v n xs)
    (g m c : Nat) (cs : Array Value) (e' : TypeId) (fr : Nat × Nat) (hx : a.eval x = .slice (some ⟨g, 0, none⟩) m c) (hnew : w.heap[g]? = some (.cells cs e' fr)) (hm : m ≤ cs.size) (h1 : ∀ u ∈ cs.toList.take m, u.oneCell' = true)
    (h63 : n + m ≤ maxLen) (hbytes : (n + m) * bytes ≤ 140737488355328) (hbase : base ≤ w.heap.size)
    (h : ∀ v' w', w'.ownsRow base e 1 v' (n + m) (xs ++ cs.toList.take m) → Below base w w' → w.grownBy w' v.ownBlock → K (a.put o.dst v') w') :
    if Region.wanted o (yielded ops a.tmps) = true then Oper.wp P o a w K Q else E := by
  have hw : Region.wanted o (yielded ops a.tmps) = true := by simp [Region.wanted, hgd]
  rw [if_pos hw]
  obtain ⟨i0, hi0, hz0, hzz1, hz2⟩ := info_parts hi
  refine wp_append_own w s x t ho base e i0 z 1 bytes ht hi0 hz0 hzz1 hz2 hz1 (by decide) v n xs hs hown ⟨g, 0, none⟩ m c (cs.toList.take m) hx (by simp; omega) ?_ h1 h63 hbytes hbase ?_
  · intro j y hj
    have hjm : j < m := by
      rcases Nat.lt_or_ge j m with h | h
      · exact h
      · simp [List.getElem?_take, Nat.not_lt.2 h] at hj
    have hj' : cs[j]? = some y := by rw [List.getElem?_take_of_lt hjm] at hj; simpa using hj
    have ha : (⟨g, 0, none⟩ : Addr).add j = ⟨g, j, none⟩ := by unfold Addr.add; split <;> simp_all
    rw [ha]
    simp [World.cell?, hnew, hj']
  · intro v' w' hown' hgrow _
    exact h v' w' hown' ((Below.refl base w).grown hgrow hbase (fun k hk => (hown.lt k hk).1)) hgrow

/-- s[k] of a string -/
theorem run_index_str {P : Program} {T : TypeId} (hT : P.underlying T = some .string) (s : ByteArray) (kd : IntKind) (k : Nat) (hk : k < s.size) (w : World) :
    (Instr.index T (.string s) (.int kd (k : Int))).run P w = .ok (.int .u8 (s[k].toNat : Int)) w := by
  have e : s[k]? = some s[k] := getElem?_pos _ k hk
  simp [Instr.index, asIntOf, run_underlying hT, e]

theorem run_index_str_at {P : Program} {T : TypeId} (hT : P.underlying T = some .string) (s : ByteArray) (kd : IntKind) (i : Int) (k : Nat) (hi : i = (k : Int)) (hk : k < s.size) (w : World) :
    (Instr.index T (.string s) (.int kd i)).run P w = .ok (.int .u8 (s[k].toNat : Int)) w := by
  subst hi; exact run_index_str hT s kd k hk w

/-- Elements of any size appended out of the head of a block to an owned row: where the row then lies. -/
theorem wpList_appL {P : Program} {w : World} {ops : Array Oper} {rest : List Oper} {o : Oper} {a : Act} {Q : Exit → Act → World → Prop} (hgd : o.guard = none) (s x : Operand) (t : TypeId)
    (ho : o.op = .call { callee := .builtin .append, args := #[s, x], argTypes := #[t, t] })
    (base : Nat) (e : TypeId) (z : Value) (size bytes : Nat) (hi : (P.info? e).map (fun i => (i.zero, i.size, i.bytes)) = some (some z, size, bytes)) (hzs : z.cells.size = size) (hsz : 0 < size) (ht : P.underlying t = some (.slice e))
    (v : Value) (n : Nat) (xs : List Value) (hs : a.eval s = v) (hown : w.ownsRow base e size v n xs)
    (ad : Addr) (m c : Nat) (news : List Value) (hx : a.eval x = .slice (some ad) m c) (hl : news.length = m * size) (hnews : ∀ j u, news[j]? = some u → w.cell? (ad.add j) = some u) (h1 : ∀ u ∈ news, u.oneCell' = true)
    (hm : 0 < m) (h63 : n + m ≤ maxLen) (hbytes : (n + m) * bytes ≤ 140737488355328) (hbase : base ≤ w.heap.size)
    (h : ∀ g cap w', w'.ownsRow base e size (.slice (some ⟨g, 0, none⟩) (n + m) cap) (n + m) (xs ++ news) → w.grownBy w' v.ownBlock → (v.ownBlock = some g ∨ g = w.heap.size) → g < w'.heap.size →
      wpList P ops Q rest (a.put o.dst (.slice (some ⟨g, 0, none⟩) (n + m) cap)) w') : wpList P ops Q (o :: rest) a w := by
  obtain ⟨i0, hi0, hz0, hzz1, hz2⟩ := info_parts hi
  exact wpList_plain hgd fun _ hK => wp_append_lies w s x t ho base e i0 z size bytes ht hi0 hz0 hzz1 hz2 hzs hsz v n xs hs hown ad m c news hx hl hnews h1 hm h63 hbytes hbase w.heap.size rfl
    fun g cap w' h1 h2 h3 h4 => hK _ _ (h g cap w' h1 h2 h3 h4)

theorem step_appL {P : Program} {w : World} {ops : Array Oper} {o : Oper} {a : Act} {K : Act → World → Prop} {Q : Exit → Act → World → Prop} {E : Prop} (hgd : o.guard = none) (s x : Operand) (t : TypeId)
    (ho : o.op = .call { callee := .builtin .append, args := #[s, x], argTypes := #[t, t] })
    (base : Nat) (e : TypeId) (z : Value) (size bytes : Nat) (hi : (P.info? e).map (fun i => (i.zero, i.size, i.bytes)) = some (some z, size, bytes)) (hzs : z.cells.size = size) (hsz : 0 < size) (ht : P.underlying t = some (.slice e))
    (v : Value) (n : Nat) (xs : List Value) (hs : a.eval s = v) (hown : w.ownsRow base e size v n xs)
    (ad : Addr) (m c : Nat) (news : List Value) (hx : a.eval x = .slice (some ad) m c) (hl : news.length = m * size) (hnews : ∀ j u, news[j]? = some u → w.cell? (ad.add j) = some u) (h1 : ∀ u ∈ news, u.oneCell' = true)
    (hm : 0 < m) (h63 : n + m ≤ maxLen) (hbytes : (n + m) * bytes ≤ 140737488355328) (hbase : base ≤ w.heap.size)
    (h : ∀ g cap w', w'.ownsRow base e size (.slice (some ⟨g, 0, none⟩) (n + m) cap) (n + m) (xs ++ news) → w.grownBy w' v.ownBlock → (v.ownBlock = some g ∨ g = w.heap.size) → g < w'.heap.size →
      K (a.put o.dst (.slice (some ⟨g, 0, none⟩) (n + m) cap)) w') :
    if Region.wanted o (yielded ops a.tmps) = true then Oper.wp P o a w K Q else E := by
  obtain ⟨i0, hi0, hz0, hzz1, hz2⟩ := info_parts hi
  exact step_append_lies w hgd s x t ho base e i0 z size bytes ht hi0 hz0 hzz1 hz2 hzs hsz v n xs hs hown ad m c news hx hl hnews h1 hm h63 hbytes hbase w.heap.size rfl h

/-- The cells at the head of a block known whole. -/
theorem news_block {w : World} {g : Nat} {cs : Array Value} {t : TypeId} {fr : Nat × Nat} (hg : w.heap[g]? = some (.cells cs t fr)) (j : Nat) (u : Value) (hj : cs.toList[j]? = some u) : w.cell? ((⟨g, 0, none⟩ : Addr).add j) = some u := by
  have ha : (⟨g, 0, none⟩ : Addr).add j = ⟨g, j, none⟩ := by unfold Addr.add; split <;> simp_all
  rw [ha]; simp [World.cell?, hg] at hj ⊢; exact hj

theorem flat_length (f : Nat → List Value) (size : Nat) (hf : ∀ j, (f j).length = size) (n : Nat) : ((List.range n).flatMap f).length = n * size := by
  induction n with
  | zero => simp
  | succ n ih => rw [List.range_succ, List.flatMap_append, List.length_append, ih]; simp [hf, Nat.succ_mul]
theorem flat_snoc (f : Nat → List Value) (n : Nat) : (List.range (n + 1)).flatMap f = (List.range n).flatMap f ++ f n := by
  rw [List.range_succ, List.flatMap_append]; simp
theorem flat_get (f : Nat → List Value) (size : Nat) (hf : ∀ j, (f j).length = size) (n j i : Nat) (hj : j < n) (hi : i < size) : ((List.range n).flatMap f)[j * size + i]? = (f j)[i]? := by
  induction n with
  | zero => omega
  | succ n ih =>
    have hl := flat_length f size hf n
    rw [flat_snoc]
    by_cases e : j < n
    · have : j * size + i < n * size := by
        have := Nat.mul_le_mul_right size (show j + 1 ≤ n by omega)
        rw [Nat.succ_mul] at this; omega
      rw [List.getElem?_append_left (by omega)]
      exact ih e
    · have : j = n := by omega
      subst this
      rw [List.getElem?_append_right (by omega), hl]
      congr 1; omega
theorem flat_congr (f g : Nat → List Value) (n : Nat) (h : ∀ j, j < n → f j = g j) : (List.range n).flatMap f = (List.range n).flatMap g := by
  induction n with
  | zero => simp
  | succ n ih => rw [flat_snoc, flat_snoc, ih (fun j hj => h j (by omega)), h n (by omega)]

/-- One-cell values stored over a whole block. -/
theorem run_storeCells_list {P : Program} (w : World) (g : Nat) (t : TypeId) (old : Array Value) (cells : List Value) (hg : w.heap[g]? = some (.cells old t (0, 0)))
    (ho : old.size = cells.length) (h1 : ∀ v ∈ cells, v.oneCell' = true) :
    (storeCells ⟨g, 0, none⟩ cells).run P w = .ok () (w.setRow g cells.toArray) := by
  have := run_storeCells_from (P := P) g t cells 0 old w hg (by omega) h1
  simpa using this

/-- A new block and a whole row stored over it. -/
theorem setRow_new (w : World) (old : Array Value) (t : TypeId) (cs : Array Value) :
    ((w.alloc (.cells old t)).setRow w.heap.size cs).heap[w.heap.size]? = some (.cells cs t (0, 0)) ∧ Below w.heap.size w ((w.alloc (.cells old t)).setRow w.heap.size cs) ∧ ((w.alloc (.cells old t)).setRow w.heap.size cs).heap.size = w.heap.size + 1 := by
  refine ⟨setRow_heap _ _ old _ _ _ (Go.heap_alloc_new _ _), ⟨rfl, rfl, rfl, by simp, fun k hk => ?_⟩, by simp⟩
  rw [setRow_other _ _ _ _ (by omega)]
  exact heap_alloc_old _ _ hk

theorem cell_alloc_lt (w : World) (o : Obj) (a : Addr) (h : a.block < w.heap.size) : (w.alloc o).cell? a = w.cell? a := World.cell?_of_block (w := w) (Below.heap_alloc w o a.block h)

/-- append(nil, x...): a row of one's own. -/
theorem wpList_app_nil {P : Program} {w : World} {ops : Array Oper} {rest : List Oper} {o : Oper} {a : Act} {Q : Exit → Act → World → Prop} (hgd : o.guard = none) (s x : Operand) (t : TypeId)
    (ho : o.op = .call { callee := .builtin .append, args := #[s, x], argTypes := #[t, t] })
    (e : TypeId) (z : Value) (size bytes : Nat) (hi : (P.info? e).map (fun i => (i.zero, i.size, i.bytes)) = some (some z, size, bytes)) (hzs : z.cells.size = size) (hsz : 0 < size) (ht : P.underlying t = some (.slice e))
    (hs : a.eval s = .slice none 0 0) (ad : Option Addr) (m c : Nat) (news : List Value) (hx : a.eval x = .slice ad m c) (hl : news.length = m * size)
    (hnews : m ≠ 0 → ∃ b off, ad = some ⟨b, off, none⟩ ∧ ∀ j u, news[j]? = some u → w.cell? ⟨b, off + j, none⟩ = some u) (hnil : ad = none → c = 0) (h1 : ∀ u ∈ news, u.oneCell' = true)
    (h63 : m ≤ maxLen) (hbytes : m * bytes ≤ 140737488355328)
    (h : ∀ v' w', w'.ownsRow w.heap.size e size v' m news → Below w.heap.size w w' → wpList P ops Q rest (a.put o.dst v') w') : wpList P ops Q (o :: rest) a w := by
  obtain ⟨i0, hi0, hz0, hzz1, hz2⟩ := info_parts hi
  have hnilrow : w.ownsRow w.heap.size e size (.slice none 0 0) 0 [] := ⟨by simp, Or.inl ⟨rfl, rfl⟩⟩
  by_cases hm : m = 0
  · subst hm
    have hn0 : news = [] := by simpa using hl
    subst hn0
    cases ad with
    | none =>
      have hc := hnil rfl
      subst hc
      exact wpList_append_own_none hgd s x t ho w.heap.size e i0 size ht hi0 _ 0 [] hs hnilrow hx (h _ w hnilrow (Below.refl _ _))
    | some ad =>
      refine wpList_append_own w hgd s x t ho w.heap.size e i0 z size bytes ht hi0 hz0 hzz1 hz2 hzs hsz _ 0 [] hs hnilrow ad 0 c [] hx (by simp) (fun j u hj => by simp at hj) (fun u hu => by cases hu) (by unfold maxLen; omega) (by simp) (Nat.le_refl _) ?_
      intro v' w' ho' hg' _
      exact h v' w' (by simpa using ho') ((Below.refl _ w).grown hg' (Nat.le_refl _) (fun k hk => by cases hk))
  · obtain ⟨b, off, rfl, hc⟩ := hnews hm
    refine wpList_append_own w hgd s x t ho w.heap.size e i0 z size bytes ht hi0 hz0 hzz1 hz2 hzs hsz _ 0 [] hs hnilrow ⟨b, off, none⟩ m c news hx hl (fun j u hj => ?_) h1 (by omega) (by simpa using hbytes) (Nat.le_refl _) ?_
    · have ha : (⟨b, off, none⟩ : Addr).add j = ⟨b, off + j, none⟩ := by unfold Addr.add; split <;> simp_all
      rw [ha]; exact hc j u hj
    · intro v' w' ho' hg' _
      exact h v' w' (by simpa using ho') ((Below.refl _ w).grown hg' (Nat.le_refl _) (fun k hk => by cases hk))

/-- '!=' between two arrays of bytes. -/
theorem run_neq_bytes {P : Program} (t e : TypeId) (n : Nat) (ht : P.underlying t = some (.array n e)) (he : P.underlying e = some (.int .u8)) (hsz : ∀ w, (Go.sizeOf e).run P w = .ok 1 w)
    (xs ys : List UInt8) (hx : xs.length = n) (hy : ys.length = n) (w : World) :
    (binOp .neq t (.agg (xs.map fun b => Value.int .u8 (b.toNat : Int)).toArray) (.agg (ys.map fun b => Value.int .u8 (b.toNat : Int)).toArray)).run P w = .ok (.bool !(xs == ys)) w := by
  have h : (Op.equalIn 10000 t (.agg (xs.map fun b => Value.int .u8 (b.toNat : Int)).toArray) (.agg (ys.map fun b => Value.int .u8 (b.toNat : Int)).toArray)).run P w = .ok (xs == ys) w := run_equalIn_bytes w 9998 t e n ht he hsz xs ys hx hy
  simp only [binOp]
  simp [Op.equal, Op.maxDepth, h]

end Go.Proofs.YtdfiblaboddbjaaGreatDoor.Base
