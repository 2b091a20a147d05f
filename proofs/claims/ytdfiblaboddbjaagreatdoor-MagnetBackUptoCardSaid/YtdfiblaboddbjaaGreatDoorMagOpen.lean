/-
  The data of a link, read as it lies in memory.
-/
import Derived.Test.YtdfiblaboddbjaaGreatDoorRows
import Derived.Test.YtdfiblaboddbjaaGreatDoorMagRep
import Derived.Deep.Slices
import Derived.DataReads
import Derived.OpenShut
import Derived.ChangeSame
namespace Go.Proofs.YtdfiblaboddbjaaGreatDoor.Open
open Go.RowKit Go.Proofs.YtdfiblaboddbjaaGreatDoor.Base Go.Proofs.YtdfiblaboddbjaaGreatDoor.Rep Go.Deep Go.ChangeShapes Go.WideShapes
set_option linter.unusedVariables false
set_option linter.unusedSimpArgs false

instance there_V : Inhabited V := ⟨.leaf⟩
instance there_B : Inhabited ByteArray := ⟨⟨#[]⟩⟩

section
variable {H : Type} {enc : TypeId × Value → H} {w : World} {held : Bool}

theorem one_le (d : DataW H) : 1 ≤ Rows.uptoBulk d := by
  cases d with
  | lit l => cases l <;> simp [Rows.uptoBulk]
  | nil => simp [Rows.uptoBulk]
  | ptr d => simp [Rows.uptoBulk]
  | slice elems spare => simp [Rows.uptoBulk]
  | agg parts => simp [Rows.uptoBulk]
  | iface t d => simp [Rows.uptoBulk]
  | map entries => simp [Rows.uptoBulk]
  | held h => simp [Rows.uptoBulk]
theorem part_le {d : DataW H} {l : List (DataW H)} (h : d ∈ l) : Rows.uptoBulk d ≤ Rows.uptoBulkAll l := by
  induction l with
  | nil => cases h
  | cons x r ih =>
    simp only [Rows.uptoBulkAll]
    rcases List.mem_cons.1 h with e | e
    · subst e; omega
    · have := ih e; omega
theorem length_le (l : List (DataW H)) : l.length ≤ Rows.uptoBulkAll l := by
  induction l with
  | nil => simp [Rows.uptoBulkAll]
  | cons x r ih => have := one_le x; simp only [Rows.uptoBulkAll, List.length_cons]; omega

theorem at_of {a : Addr} {n : Nat} {cs : List Value} (h : w.cells? 0 a n = some cs) (hn : 0 < n) : ∃ b o, a = ⟨b, o, none⟩ ∧ At w (fun b => b < w.heap.size) b o cs := by
  obtain ⟨_, hl, hc⟩ := World.cells?_some h
  have h0 := hc 0 hn
  rw [List.getElem?_eq_getElem (by omega)] at h0
  have e0 : a.add 0 = a := by simp [Addr.add]
  rw [e0] at h0
  have hlt := World.block_lt_of_cell? w a h0
  obtain ⟨b, o, sp⟩ := a
  cases sp with
  | some s =>
    exfalso
    simp only [World.cell?] at h0
    split at h0 <;> simp at h0
  | none =>
    refine ⟨b, o, rfl, hlt, hlt, fun j v hj => ?_⟩
    have hjn : j < n := by rw [← hl]; exact (List.getElem?_eq_some_iff.1 hj).1
    have := hc j hjn
    rw [hj] at this
    rw [← this]
    unfold Addr.add
    split
    · rename_i e; subst e; rfl
    · rfl

set_option maxRecDepth 100000 in
theorem sl_of {t e : TypeId} {c fuel : Nat} {cs : List Value} {x : DataW H × List MemPlace} (ht : Tryz.prog.underlying t = some (.slice e)) (hc : Tryz.prog.cellsOf e = c) (h0 : 0 < c)
    (h : DataW.trod enc Tryz.prog w 0 (fun _ => true) held fuel t cs = some x) (hk : Rows.uptoBulk x.1 ≤ 1048576) :
    ∃ (v : Value) (n : Nat) (D : Nat → DataW H) (C : Nat → List Value), cs = [v] ∧ Sl v n (fun b o => ∀ j, j < n → At w (fun b => b < w.heap.size) b (o + j * c) (C j)) ∧
      ∀ j, j < n → Rows.uptoBulk (D j) < Rows.uptoBulk x.1 ∧ ∃ f pl, DataW.trod enc Tryz.prog w 0 (fun _ => true) held f e (C j) = some (D j, pl) := by
  rcases open_slice ht h with ⟨rfl, rfl⟩ | ⟨a, len, cap, m, n, D, Pl, rfl, hb, hl, hm, hmm, rfl, hx⟩
  · exact ⟨_, 0, fun _ => .nil, fun _ => [], rfl, ⟨none, 0, rfl, Nat.le_refl _, ⟨Nat.zero_le _, by omega, fun _ => rfl⟩, Or.inl rfl⟩, fun j hj => by omega⟩
  · have hmc : m = cap := by simpa using hmm
    subst hmc
    have hk' : Rows.uptoBulkAll ((List.range len).map D) + Rows.uptoBulkAll ((List.range (m - len)).map fun j => D (len + j)) + 1 ≤ 1048576 := by simpa only [Rows.uptoBulk] using hk
    have hlen : len ≤ 1048576 := by
      have := length_le ((List.range len).map D)
      simp only [List.length_map, List.length_range] at this
      omega
    rw [hc] at hx
    obtain ⟨C, hC⟩ := choose_lt (fun i hi => hx i hi)
    refine ⟨_, len, D, C, rfl, ⟨some a, m, rfl, hl, ⟨hm, hlen, fun h => by cases h⟩, ?_⟩, fun j hj => ⟨?_, n, Pl j, (hC j (by omega)).2⟩⟩
    · rcases Nat.eq_zero_or_pos len with hz | hp
      · exact Or.inl hz
      · obtain ⟨b, o, e, _⟩ := at_of (hC 0 (by omega)).1 h0
        have e' : a = ⟨b, o, none⟩ := by simpa [Addr.add] using e
        subst e'
        refine Or.inr ⟨b, o, rfl, fun j hj => ?_⟩
        obtain ⟨b', o', e2, hA⟩ := at_of (hC j (by omega)).1 h0
        have e3 : (⟨b, o, none⟩ : Addr).add (j * c) = ⟨b, o + j * c, none⟩ := by
          unfold Addr.add
          split
          · rename_i e; rw [e]; rfl
          · rfl
        rw [e3] at e2
        injection e2 with e4 e5
        subst e4 e5
        exact hA
    · have := part_le (l := (List.range len).map D) (d := D j) (by simp; exact ⟨j, hj, rfl⟩)
      show Rows.uptoBulk (D j) < Rows.uptoBulk (.slice ((List.range len).map D) _)
      simp only [Rows.uptoBulk]
      omega

theorem cells5 : Tryz.prog.cellsOf 49 = 5 := by kernel_rfl
theorem cells6 : Tryz.prog.cellsOf 51 = 6 := by kernel_rfl
theorem cells2 : Tryz.prog.cellsOf 43 = 2 := by kernel_rfl
theorem cellsI : Tryz.prog.cellsOf 3 = 1 := by kernel_rfl
theorem cellsS : Tryz.prog.cellsOf 9 = 1 := by kernel_rfl
theorem cellsB : Tryz.prog.cellsOf 5 = 1 := by kernel_rfl
theorem cellsH : Tryz.prog.cellsOf 24 = 32 := by kernel_rfl
theorem cellsL : Tryz.prog.cellsOf 29 = 37 := by kernel_rfl
theorem cellsLV : Tryz.prog.cellsOf 47 = 1 := by kernel_rfl
theorem cellsLP : Tryz.prog.cellsOf 27 = 1 := by kernel_rfl
theorem cellsLS : Tryz.prog.cellsOf 25 = 1 := by kernel_rfl
theorem cellsLR : Tryz.prog.cellsOf 26 = 1 := by kernel_rfl

/-- What a value's data asks of all data within it. -/
def Ih (H : Type) (enc : TypeId × Value → H) (w : World) (held : Bool) (N : Nat) : Prop :=
  ∀ (d : DataW H) (f : Nat) (pl : List MemPlace) (cs : List Value), Rows.uptoBulk d < N → DataW.trod enc Tryz.prog w 0 (fun _ => true) held f 49 cs = some (d, pl) → ∃ x, RV w (fun b => b < w.heap.size) x cs

theorem list6 {cs : List Value} (h : cs.length = 6) : ∃ c0 c1 c2 c3 c4 c5, cs = [c0, c1, c2, c3, c4, c5] := by
  match cs, h with
  | [c0, c1, c2, c3, c4, c5], _ => exact ⟨c0, c1, c2, c3, c4, c5, rfl⟩

set_option maxRecDepth 100000 in
theorem rp_of {N fuel : Nat} (ih : Ih H enc w held N) {cs : List Value} {x : DataW H × List MemPlace} (h : DataW.trod enc Tryz.prog w 0 (fun _ => true) held fuel 27 cs = some x) (hk : Rows.uptoBulk x.1 ≤ 1048576) (hN : Rows.uptoBulk x.1 ≤ N) :
    ∃ (v : Value) (m : Nat) (dk : Nat → ByteArray) (dv : Nat → V), cs = [v] ∧ RP w (fun b => b < w.heap.size) m dk dv v := by
  obtain ⟨v, n, D, C, rfl, hS, hD⟩ := sl_of Tryz.underlying27 cells6 (by decide) h hk
  have each : ∀ j, j < n → ∃ y : ByteArray × V, ∃ c, C j = .string y.1 :: c ∧ y.1.size ≤ 1048576 ∧ RV w (fun b => b < w.heap.size) y.2 c := fun j hj => by
    obtain ⟨hlt, f, pl, ht⟩ := hD j hj
    obtain ⟨xs, n', _, hx, hl, hlen, hf⟩ := DataW.trod_struct Tryz.underlying51 ht
    rw [cells6] at hl
    obtain ⟨c0, c1, c2, c3, c4, c5, hC⟩ := list6 hl
    match xs, hlen with
    | [y0, y1], _ =>
      have f0 := hf 0 _ rfl
      have f1 := hf 1 _ rfl
      rw [hC] at f0 f1
      simp only [cellsS, cells5, List.drop_zero, List.drop_succ_cons, List.take_succ_cons, List.take_zero, List.getElem?_cons_zero, List.getElem?_cons_succ] at f0 f1
      injection hx with hx1 hx2
      obtain ⟨s, hs, he, _⟩ := DataW.trod_string Tryz.underlying9 f0
      have hb : Rows.uptoBulk (D j) = Rows.uptoBulk y0.1 + Rows.uptoBulk y1.1 + 1 := by
        rw [hx1]; simp only [List.map_cons, List.map_nil, Rows.uptoBulk, Rows.uptoBulkAll]; omega
      have hb0 : Rows.uptoBulk y0.1 = s.size + 1 := by
        rw [he]; simp [Rows.uptoBulk]
      obtain ⟨y, hy⟩ := ih y1.1 _ y1.2 _ (by omega) f1
      refine ⟨(s, y), [c1, c2, c3, c4, c5], ?_, (by omega : s.size ≤ 1048576), hy⟩
      replace hs := List.head_eq_of_cons_eq hs
      rw [hC, hs]
  obtain ⟨F, hF⟩ := choose_lt each
  refine ⟨v, n, fun j => (F j).1, fun j => (F j).2, rfl, Sl.mono hS fun b o ha j hj => ?_⟩
  obtain ⟨c, h1, h2, h3⟩ := hF j hj
  exact ⟨c, by rw [← h1]; exact ha j hj, h2, h3⟩

set_option maxRecDepth 100000 in
theorem rv_of (N : Nat) (hN : N ≤ 1048576) : Ih H enc w held N := by
  induction N with
  | zero => intro d f pl cs h; omega
  | succ N ihN =>
    have ih := ihN (by omega)
    intro d f pl cs hd ht
    obtain ⟨xs, n', _, hx, hl, hlen, hf⟩ := DataW.trod_struct Tryz.underlying49 ht
    rw [cells5] at hl
    obtain ⟨c0, c1, c2, c3, c4, rfl⟩ := list5 hl
    match xs, hlen with
    | [y0, y1, y2, y3, y4], _ =>
      have f0 := hf 0 _ rfl
      have f1 := hf 1 _ rfl
      have f2 := hf 2 _ rfl
      have f3 := hf 3 _ rfl
      have f4 := hf 4 _ rfl
      simp only [cellsS, cellsI, cellsLV, cellsLP, List.drop_zero, List.drop_succ_cons, List.take_succ_cons, List.take_zero, List.getElem?_cons_zero, List.getElem?_cons_succ] at f0 f1 f2 f3 f4
      injection hx with hx1 hx2
      have hb : Rows.uptoBulk d = Rows.uptoBulk y0.1 + Rows.uptoBulk y1.1 + Rows.uptoBulk y2.1 + Rows.uptoBulk y3.1 + Rows.uptoBulk y4.1 + 1 := by
        rw [hx1]; simp only [List.map_cons, List.map_nil, Rows.uptoBulk, Rows.uptoBulkAll]; omega
      obtain ⟨k, hk, _⟩ := DataW.trod_int Tryz.underlying3 f0
      obtain ⟨i, hi, _⟩ := DataW.trod_int Tryz.underlying3 f1
      obtain ⟨s, hs, he, _⟩ := DataW.trod_string Tryz.underlying9 f2
      have hb2 : Rows.uptoBulk y2.1 = s.size + 1 := by
        rw [he]; simp [Rows.uptoBulk]
      obtain ⟨v, n, D, C, hv, hS, hD⟩ := sl_of Tryz.underlying47 cells5 (by decide) f3 (by omega)
      obtain ⟨l, hL⟩ := choose_lt (α := V) (n := n) (p := fun j y => RV w (fun b => b < w.heap.size) y (C j)) (fun j hj => by
        obtain ⟨hlt, f', pl', ht'⟩ := hD j hj
        exact ih (D j) f' pl' (C j) (by omega) ht')
      obtain ⟨v', m, dk, dv, hv', hP⟩ := rp_of ih f4 (by omega) (by omega)
      replace hk := List.head_eq_of_cons_eq hk
      replace hi := List.head_eq_of_cons_eq hi
      replace hs := List.head_eq_of_cons_eq hs
      replace hv := List.head_eq_of_cons_eq hv
      replace hv' := List.head_eq_of_cons_eq hv'
      subst hk hi hs hv hv'
      exact ⟨.mk k i s n l m dk dv, c3, c4, rfl, by omega, Sl.mono hS fun b o ha j hj => ⟨C j, ha j hj, hL j hj⟩, hP⟩

set_option maxRecDepth 100000 in
theorem rs_of {fuel : Nat} {cs : List Value} {x : DataW H × List MemPlace} (h : DataW.trod enc Tryz.prog w 0 (fun _ => true) held fuel 25 cs = some x) (hk : Rows.uptoBulk x.1 ≤ 1048576) :
    ∃ (v : Value) (l : List ByteArray), cs = [v] ∧ RS w (fun b => b < w.heap.size) l v := by
  obtain ⟨v, n, D, C, rfl, hS, hD⟩ := sl_of Tryz.underlying25 cellsS (by decide) h hk
  obtain ⟨F, hF⟩ := choose_lt (α := ByteArray) (n := n) (p := fun j s => C j = [.string s] ∧ s.size ≤ 1048576) (fun j hj => by
    obtain ⟨hlt, f', pl', ht'⟩ := hD j hj
    obtain ⟨s, hs, he, _⟩ := DataW.trod_string Tryz.underlying9 ht'
    injection he with he1 _
    have hb2 : Rows.uptoBulk (D j) = s.size + 1 := by
      rw [he1]; simp [Rows.uptoBulk]
    exact ⟨s, hs, by omega⟩)
  refine ⟨v, (List.range n).map F, rfl, ?_⟩
  have hl : ((List.range n).map F).length = n := by simp
  unfold RS
  rw [hl]
  refine Sl.mono hS fun b o ha j s hj => ?_
  have hjn : j < n := by rw [← hl]; exact (List.getElem?_eq_some_iff.1 hj).1
  have hs : F j = s := by simpa [List.getElem?_map, hjn] using hj
  have h1 := ha j hjn
  rw [(hF j hjn).1, hs, Nat.mul_one] at h1
  exact ⟨h1, by rw [← hs]; exact (hF j hjn).2⟩

set_option maxRecDepth 100000 in
theorem rr_of {fuel : Nat} {cs : List Value} {x : DataW H × List MemPlace} (h : DataW.trod enc Tryz.prog w 0 (fun _ => true) held fuel 26 cs = some x) (hk : Rows.uptoBulk x.1 ≤ 1048576) :
    ∃ (v : Value) (l : List (Int × Int)), cs = [v] ∧ RR w (fun b => b < w.heap.size) l v := by
  obtain ⟨v, n, D, C, rfl, hS, hD⟩ := sl_of Tryz.underlying26 cells2 (by decide) h hk
  obtain ⟨F, hF⟩ := choose_lt (α := Int × Int) (n := n) (p := fun j r => C j = [.int .i64 r.1, .int .i64 r.2] ∧ (Lit.int .i64 r.1).wf = true ∧ (Lit.int .i64 r.2).wf = true) (fun j hj => by
    obtain ⟨hlt, f', pl', ht'⟩ := hD j hj
    obtain ⟨xs, n', _, hx, hl, hlen, hf⟩ := DataW.trod_struct Tryz.underlying43 ht'
    rw [cells2] at hl
    obtain ⟨c0, c1, hC⟩ : ∃ c0 c1, C j = [c0, c1] := by
      match C j, hl with
      | [c0, c1], _ => exact ⟨c0, c1, rfl⟩
    match xs, hlen with
    | [y0, y1], _ =>
      have f0 := hf 0 _ rfl
      have f1 := hf 1 _ rfl
      rw [hC] at f0 f1
      simp only [cellsI, List.drop_zero, List.drop_succ_cons, List.take_succ_cons, List.take_zero, List.getElem?_cons_zero, List.getElem?_cons_succ] at f0 f1
      obtain ⟨p, hp, _, hw1⟩ := DataW.trod_int Tryz.underlying3 f0
      obtain ⟨q, hq, _, hw2⟩ := DataW.trod_int Tryz.underlying3 f1
      replace hp := List.head_eq_of_cons_eq hp
      replace hq := List.head_eq_of_cons_eq hq
      exact ⟨(p, q), by rw [hC, hp, hq], hw1, hw2⟩)
  refine ⟨v, (List.range n).map F, rfl, ?_⟩
  have hl : ((List.range n).map F).length = n := by simp
  unfold RR
  rw [hl]
  refine Sl.mono hS fun b o ha j s hj => ?_
  have hjn : j < n := by rw [← hl]; exact (List.getElem?_eq_some_iff.1 hj).1
  have hs : F j = s := by simpa [List.getElem?_map, hjn] using hj
  have h1 := ha j hjn
  rw [(hF j hjn).1, hs] at h1
  exact ⟨h1, by rw [← hs]; exact (hF j hjn).2.1, by rw [← hs]; exact (hF j hjn).2.2⟩

theorem get_of_take {l : List Value} {k : Nat} {x : Value} (h : (l.drop k).take 1 = [x]) : l[k]? = some x := by
  have h1 : ((l.drop k).take 1)[0]? = some x := by rw [h]; rfl
  rw [List.getElem?_take_of_lt (by decide), List.getElem?_drop] at h1
  simpa using h1

set_option maxRecDepth 100000 in
theorem rl_of {base : Nat} {v : Value} {d : DataW H} {ps : List MemPlace} (hval : Value.okWide Tryz.prog w .any base 29 v)
    (h : DataW.Trod enc Tryz.prog w 0 (fun _ => true) held 29 v d ps) (hk : Rows.uptoBulk d ≤ 1048576) :
    ∃ X tv pv ov mv, v = .agg (lcells X tv pv ov mv).toArray ∧ RL w (fun b => b < w.heap.size) X tv pv ov mv := by
  obtain ⟨cs, rfl, hsz⟩ := okWide_struct Tryz.underlying29 hval
  rw [cellsL] at hsz
  obtain ⟨fuel, ht⟩ := h
  simp only [Value.cells] at ht
  obtain ⟨xs, n', _, hx, hl, hlen, hf⟩ := DataW.trod_struct Tryz.underlying29 ht
  match xs, hlen with
  | [y0, y1, y2, y3, y4, y5], _ =>
    have f0 : DataW.trod enc Tryz.prog w 0 (fun _ => true) held n' 24 ((cs.toList.drop 0).take (Tryz.prog.cellsOf 24)) = some y0 := hf 0 _ rfl
    have f1 : DataW.trod enc Tryz.prog w 0 (fun _ => true) held n' 9 ((cs.toList.drop 32).take (Tryz.prog.cellsOf 9)) = some y1 := hf 1 _ rfl
    have f2 : DataW.trod enc Tryz.prog w 0 (fun _ => true) held n' 25 ((cs.toList.drop 33).take (Tryz.prog.cellsOf 25)) = some y2 := hf 2 _ rfl
    have f3 : DataW.trod enc Tryz.prog w 0 (fun _ => true) held n' 25 ((cs.toList.drop 34).take (Tryz.prog.cellsOf 25)) = some y3 := hf 3 _ rfl
    have f4 : DataW.trod enc Tryz.prog w 0 (fun _ => true) held n' 26 ((cs.toList.drop 35).take (Tryz.prog.cellsOf 26)) = some y4 := hf 4 _ rfl
    have f5 : DataW.trod enc Tryz.prog w 0 (fun _ => true) held n' 27 ((cs.toList.drop 36).take (Tryz.prog.cellsOf 27)) = some y5 := hf 5 _ rfl
    rw [cellsH, List.drop_zero] at f0
    rw [cellsS] at f1
    rw [cellsLS] at f2 f3
    rw [cellsLR] at f4
    rw [cellsLP] at f5
    injection hx with hx1 hx2
    have hb : Rows.uptoBulk d = Rows.uptoBulk y0.1 + Rows.uptoBulk y1.1 + Rows.uptoBulk y2.1 + Rows.uptoBulk y3.1 + Rows.uptoBulk y4.1 + Rows.uptoBulk y5.1 + 1 := by
      rw [hx1]; simp only [List.map_cons, List.map_nil, Rows.uptoBulk, Rows.uptoBulkAll]; omega
    obtain ⟨ys, m, _, _, hyl, hyn, hy⟩ := DataW.trod_array Tryz.underlying24 f0
    obtain ⟨B, hB⟩ := choose_lt (α := UInt8) (n := 32) (p := fun i b => cs.toList[i]? = some (.int .u8 b.toNat)) (fun i hi => by
      have h1 := hy i hi
      rw [cellsB, Nat.mul_one, List.getElem?_eq_getElem (by omega)] at h1
      obtain ⟨z, hz, _, hwf⟩ := DataW.trod_int Tryz.underlying5 h1
      have h2 := get_of_take hz
      rw [List.getElem?_take_of_lt hi] at h2
      have hr : 0 ≤ z ∧ z < 256 := by
        simp [Lit.wf, IntKind.min, IntKind.max, IntKind.bits, IntKind.signed] at hwf
        omega
      refine ⟨UInt8.ofNat z.toNat, ?_⟩
      rw [h2]
      have : ((UInt8.ofNat z.toNat).toNat : Int) = z := by
        rw [UInt8.toNat_ofNat_of_lt' (by show z.toNat < 256; omega)]; omega
      rw [this])
    obtain ⟨s, hs, he, _⟩ := DataW.trod_string Tryz.underlying9 f1
    have hb1 : Rows.uptoBulk y1.1 = s.size + 1 := by
      rw [he]; simp [Rows.uptoBulk]
    obtain ⟨tv, tl, hv2, hT⟩ := rs_of f2 (by omega)
    obtain ⟨pv, pl, hv3, hP⟩ := rs_of f3 (by omega)
    obtain ⟨ov, ol, hv4, hO⟩ := rr_of f4 (by omega)
    obtain ⟨mv, xm, dk, dv, hv5, hM⟩ := rp_of (rv_of 1048576 (Nat.le_refl _)) f5 (by omega) (by omega)
    have g1 := get_of_take hs
    have g2 := get_of_take hv2
    have g3 := get_of_take hv3
    have g4 := get_of_take hv4
    have g5 := get_of_take hv5
    have hi : ((List.range 32).map B).length = 32 := by simp
    refine ⟨⟨(List.range 32).map B, s, tl, pl, ol, xm, dk, dv⟩, tv, pv, ov, mv, ?_, ⟨hi, (by omega : s.size ≤ 1048576), hT, hP, hO, hM⟩⟩
    congr 1
    apply Array.ext'
    apply List.ext_getElem?
    intro i
    by_cases h32 : i < 32
    · rw [hB i h32]
      simp [lcells, List.getElem?_append, h32]
    · by_cases h37 : i < 37
      · have : i = 32 ∨ i = 33 ∨ i = 34 ∨ i = 35 ∨ i = 36 := by omega
        rcases this with rfl | rfl | rfl | rfl | rfl
        · rw [g1]; exact (lcells_32 (X := ⟨(List.range 32).map B, s, tl, pl, ol, xm, dk, dv⟩) hi tv pv ov mv).symm
        · rw [g2]; exact (lcells_33 (X := ⟨(List.range 32).map B, s, tl, pl, ol, xm, dk, dv⟩) hi tv pv ov mv).symm
        · rw [g3]; exact (lcells_34 (X := ⟨(List.range 32).map B, s, tl, pl, ol, xm, dk, dv⟩) hi tv pv ov mv).symm
        · rw [g4]; exact (lcells_35 (X := ⟨(List.range 32).map B, s, tl, pl, ol, xm, dk, dv⟩) hi tv pv ov mv).symm
        · rw [g5]; exact (lcells_36 (X := ⟨(List.range 32).map B, s, tl, pl, ol, xm, dk, dv⟩) hi tv pv ov mv).symm
      · rw [List.getElem?_eq_none (by simp; omega), List.getElem?_eq_none (by rw [List.toList_toArray, lcells_length (X := ⟨(List.range 32).map B, s, tl, pl, ol, xm, dk, dv⟩) hi]; omega)]
end
end Go.Proofs.YtdfiblaboddbjaaGreatDoor.Open
