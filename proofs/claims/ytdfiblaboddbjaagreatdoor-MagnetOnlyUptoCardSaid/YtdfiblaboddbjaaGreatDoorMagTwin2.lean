import Derived.Test.YtdfiblaboddbjaaGreatDoorMagTwin
namespace Go.Proofs.YtdfiblaboddbjaaGreatDoor.Twin
open Go.RowKit Go.Proofs.YtdfiblaboddbjaaGreatDoor.Base Go.Proofs.YtdfiblaboddbjaaGreatDoor.Rep
set_option linter.unusedVariables false
set_option linter.unusedSimpArgs false

/-- Of a link only these. -/
def Lk.bare (X : Lk) : Lk := { X with trackers := [], peers := [], only := [] }
abbrev zeroL : Array Value := #[Value.int .u8 0, Value.int .u8 0, Value.int .u8 0, Value.int .u8 0, Value.int .u8 0, Value.int .u8 0, Value.int .u8 0, Value.int .u8 0, Value.int .u8 0, Value.int .u8 0, Value.int .u8 0, Value.int .u8 0, Value.int .u8 0, Value.int .u8 0, Value.int .u8 0, Value.int .u8 0, Value.int .u8 0, Value.int .u8 0, Value.int .u8 0, Value.int .u8 0, Value.int .u8 0, Value.int .u8 0, Value.int .u8 0, Value.int .u8 0, Value.int .u8 0, Value.int .u8 0, Value.int .u8 0, Value.int .u8 0, Value.int .u8 0, Value.int .u8 0, Value.int .u8 0, Value.int .u8 0, Value.string ⟨#[]⟩, Value.slice none 0 0, Value.slice none 0 0, Value.slice none 0 0, Value.slice none 0 0]

theorem infoL : (Tryz.prog.info? 29).map (fun i => (i.zero, i.size)) = some (some (.agg zeroL), 37) := by kernel_rfl
theorem sizeL : (Tryz.prog.info? 29).map (·.size) = some 37 := by kernel_rfl
theorem sizeHash : (Tryz.prog.info? 24).map (·.size) = some 32 := by kernel_rfl

theorem list32 {A : Type} (l : List A) (h : l.length = 32) : ∃ a0 a1 a2 a3 a4 a5 a6 a7 a8 a9 b0 b1 b2 b3 b4 b5 b6 b7 b8 b9 c0 c1 c2 c3 c4 c5 c6 c7 c8 c9 d0 d1, l = [a0, a1, a2, a3, a4, a5, a6, a7, a8, a9, b0, b1, b2, b3, b4, b5, b6, b7, b8, b9, c0, c1, c2, c3, c4, c5, c6, c7, c8, c9, d0, d1] := by
  match l, h with
  | [a0, a1, a2, a3, a4, a5, a6, a7, a8, a9, b0, b1, b2, b3, b4, b5, b6, b7, b8, b9, c0, c1, c2, c3, c4, c5, c6, c7, c8, c9, d0, d1], _ => exact ⟨_, _, _, _, _, _, _, _, _, _, _, _, _, _, _, _, _, _, _, _, _, _, _, _, _, _, _, _, _, _, _, _, rfl⟩

/-- The link that is built. -/
theorem builtL (cs : List Value) (h : cs.length = 32) (s : ByteArray) (a : Option Addr) (n c : Nat) :
    Tryz.prog.built 29 [(0, .agg cs.toArray), (1, .string s), (5, .slice a n c)] = some (cs ++ [Value.string s, Value.slice none 0 0, Value.slice none 0 0, Value.slice none 0 0, Value.slice a n c]).toArray := by
  obtain ⟨a0, a1, a2, a3, a4, a5, a6, a7, a8, a9, b0, b1, b2, b3, b4, b5, b6, b7, b8, b9, c0, c1, c2, c3, c4, c5, c6, c7, c8, c9, d0, d1, rfl⟩ := list32 cs h
  kernel_rfl

theorem run_builtL (X : Lk) (hi : X.info.length = 32) (a : Option Addr) (n c : Nat) (w : World) :
    (Instr.build 29 #[(0, .agg (X.info.map fun b => Value.int .u8 (b.toNat : Int)).toArray), (1, .string X.name), (5, .slice a n c)]).run Tryz.prog w = .ok (.agg (lcells X (.slice none 0 0) (.slice none 0 0) (.slice none 0 0) (.slice a n c)).toArray) w :=
  run_build w _ _ _ (builtL _ (by simp [hi]) _ _ _ _)
attribute [-go_sem] Instr.build
attribute [local go_sem] run_builtL

theorem lcells_one {X : Lk} (a a2 a3 a4 : Option Addr) (n n2 n3 n4 c c2 c3 c4 : Nat) : ∀ v ∈ lcells X (.slice a n c) (.slice a2 n2 c2) (.slice a3 n3 c3) (.slice a4 n4 c4), v.oneCell' = true := by
  intro v hv
  simp only [lcells, List.mem_append, List.mem_map, List.mem_cons, List.not_mem_nil, or_false] at hv
  rcases hv with ⟨b, _, rfl⟩ | rfl | rfl | rfl | rfl | rfl <;> rfl

theorem infoS : (Tryz.prog.info? 9).map (fun i => (i.zero, i.size, i.bytes)) = some (some (.string .empty), 1, 16) := by kernel_rfl
theorem infoR : (Tryz.prog.info? 43).map (fun i => (i.zero, i.size, i.bytes)) = some (some (.agg #[.int .i64 0, .int .i64 0]), 2, 16) := by kernel_rfl

theorem flat_at (f : Nat → List Value) (size : Nat) (hf : ∀ j, (f j).length = size) (hsz : 0 < size) {w : World} {b o n : Nat} (h : ∀ j, j < n → w.rangeAt b (o + j * size) (f j)) (j : Nat) (u : Value) (hj : ((List.range n).flatMap f)[j]? = some u) : w.cell? ⟨b, o + j, none⟩ = some u := by
  have hlt : j < n * size := by
    have := (List.getElem?_eq_some_iff.1 hj).1
    rwa [flat_length f size hf] at this
  have hd : j / size * size + j % size = j := by rw [Nat.mul_comm]; exact Nat.div_add_mod j size
  have hq : j / size < n := Nat.div_lt_of_lt_mul (by rw [Nat.mul_comm]; exact hlt)
  have hm := Nat.mod_lt j hsz
  rw [← hd, flat_get f size hf n _ _ hq hm] at hj
  have := h _ hq _ u hj
  rw [Nat.add_assoc, hd] at this
  exact this

def tx (l : List ByteArray) (j : Nat) : List Value := [.string (l.getD j .empty)]
def rx (l : List (Int × Int)) (j : Nat) : List Value := [.int .i64 (l.getD j (0, 0)).1, .int .i64 (l.getD j (0, 0)).2]
theorem tx_one (l : List ByteArray) (n : Nat) : ∀ u ∈ (List.range n).flatMap (tx l), u.oneCell' = true := by
  intro u hu; simp [tx] at hu; obtain ⟨_, _, rfl⟩ := hu; rfl
theorem rx_one (l : List (Int × Int)) (n : Nat) : ∀ u ∈ (List.range n).flatMap (rx l), u.oneCell' = true := by
  intro u hu; simp [rx] at hu; obtain ⟨_, _, rfl | rfl⟩ := hu <;> rfl

theorem RS.parts {w : World} {ok : Nat → Prop} {l : List ByteArray} {v : Value} (h : RS w ok l v) : ∃ a c, v = .slice a l.length c ∧ (a = none → c = 0) ∧ l.length ≤ 1048576 ∧ (∀ (j : Nat) (s : ByteArray), l[j]? = some s → s.size ≤ 1048576) ∧
    (l.length ≠ 0 → ∃ b off, a = some ⟨b, off, none⟩ ∧ ∀ j u, ((List.range l.length).flatMap (tx l))[j]? = some u → w.cell? ⟨b, off + j, none⟩ = some u) := by
  obtain ⟨a, c, rfl, hn, ⟨_, h20, hnil⟩, hh⟩ := h
  refine ⟨a, c, rfl, hnil, h20, fun j s hj => ?_, fun h0 => ?_⟩
  · rcases hh with h0 | ⟨b, o, rfl, h⟩
    · rw [List.length_eq_zero_iff.1 h0] at hj; simp at hj
    · exact (h j s hj).2
  · rcases hh with h0' | ⟨b, o, rfl, h⟩
    · exact absurd h0' h0
    · refine ⟨b, o, rfl, flat_at _ 1 (fun _ => rfl) (by decide) fun j hj => ?_⟩
      have := (h j l[j] (by simp [hj])).1.2.2
      simpa [tx, List.getD, List.getElem?_eq_getElem hj] using this
theorem RS.of_own {w : World} {B e : Nat} {v : Value} {l : List ByteArray} (h : w.ownsRow B e 1 v l.length ((List.range l.length).flatMap (tx l))) (h20 : l.length ≤ 1048576) (hs : ∀ (j : Nat) (s : ByteArray), l[j]? = some s → s.size ≤ 1048576) : RS w (fun b => B ≤ b) l v := by
  refine (owns_at (tx l) (fun _ => rfl) h (by decide) h20).mono ?_
  rintro b o ⟨rfl, hb, hbl, -, hat⟩ j s hj
  have hlt := (List.getElem?_eq_some_iff.1 hj).1
  have := hat j hlt
  exact ⟨⟨hb, hbl, by simpa [tx, List.getD, hj] using this⟩, hs j s hj⟩
theorem RS.mono {w : World} {ok ok' : Nat → Prop} {l : List ByteArray} {v : Value} (h : RS w ok l v) (ho : ∀ k, ok k → k < w.heap.size → ok' k) : RS w ok' l v :=
  Sl.mono h fun b o h j s hj => ⟨(h j s hj).1.mono ho, (h j s hj).2⟩

theorem RR.parts {w : World} {ok : Nat → Prop} {l : List (Int × Int)} {v : Value} (h : RR w ok l v) : ∃ a c, v = .slice a l.length c ∧ (a = none → c = 0) ∧ l.length ≤ 1048576 ∧ (∀ (j : Nat) (r : Int × Int), l[j]? = some r → (Lit.int .i64 r.1).wf = true ∧ (Lit.int .i64 r.2).wf = true) ∧
    (l.length ≠ 0 → ∃ b off, a = some ⟨b, off, none⟩ ∧ ∀ j u, ((List.range l.length).flatMap (rx l))[j]? = some u → w.cell? ⟨b, off + j, none⟩ = some u) := by
  obtain ⟨a, c, rfl, hn, ⟨_, h20, hnil⟩, hh⟩ := h
  refine ⟨a, c, rfl, hnil, h20, fun j s hj => ?_, fun h0 => ?_⟩
  · rcases hh with h0 | ⟨b, o, rfl, h⟩
    · rw [List.length_eq_zero_iff.1 h0] at hj; simp at hj
    · exact (h j s hj).2
  · rcases hh with h0' | ⟨b, o, rfl, h⟩
    · exact absurd h0' h0
    · refine ⟨b, o, rfl, flat_at _ 2 (fun _ => rfl) (by decide) fun j hj => ?_⟩
      have := (h j l[j] (by simp [hj])).1.2.2
      simpa [rx, List.getD, List.getElem?_eq_getElem hj] using this
theorem RR.of_own {w : World} {B e : Nat} {v : Value} {l : List (Int × Int)} (h : w.ownsRow B e 2 v l.length ((List.range l.length).flatMap (rx l))) (h20 : l.length ≤ 1048576) (hs : ∀ (j : Nat) (r : Int × Int), l[j]? = some r → (Lit.int .i64 r.1).wf = true ∧ (Lit.int .i64 r.2).wf = true) : RR w (fun b => B ≤ b) l v := by
  refine (owns_at (rx l) (fun _ => rfl) h (by decide) h20).mono ?_
  rintro b o ⟨rfl, hb, hbl, -, hat⟩ j s hj
  have hlt := (List.getElem?_eq_some_iff.1 hj).1
  have := hat j hlt
  exact ⟨⟨hb, hbl, by simpa [rx, List.getD, hj] using this⟩, hs j s hj⟩
theorem RR.mono {w : World} {ok ok' : Nat → Prop} {l : List (Int × Int)} {v : Value} (h : RR w ok l v) (ho : ∀ k, ok k → k < w.heap.size → ok' k) : RR w ok' l v :=
  Sl.mono h fun b o h j s hj => ⟨(h j s hj).1.mono ho, (h j s hj).2⟩

theorem RS.news {w W : World} {ok : Nat → Prop} {l : List ByteArray} {a : Option Addr} {c : Nat} (h : RS w ok l (.slice a l.length c)) (hb : Below w.heap.size w W) :
    l.length ≠ 0 → ∃ b off, a = some ⟨b, off, none⟩ ∧ ∀ j u, ((List.range l.length).flatMap (tx l))[j]? = some u → W.cell? ⟨b, off + j, none⟩ = some u := by
  obtain ⟨a', c', e, _, _, _, h⟩ := RS.parts (RS.keep h (Keeps.of_below hb))
  cases e; exact h
theorem RR.news {w W : World} {ok : Nat → Prop} {l : List (Int × Int)} {a : Option Addr} {c : Nat} (h : RR w ok l (.slice a l.length c)) (hb : Below w.heap.size w W) :
    l.length ≠ 0 → ∃ b off, a = some ⟨b, off, none⟩ ∧ ∀ j u, ((List.range l.length).flatMap (rx l))[j]? = some u → W.cell? ⟨b, off + j, none⟩ = some u := by
  obtain ⟨a', c', e, _, _, _, h⟩ := RR.parts (RR.keep h (Keeps.of_below hb))
  cases e; exact h

structure St (w W : World) (b3 : Nat) (T : TypeId) (X : Lk) (tv pv ov mv tv' pv' ov' mv' : Value) : Prop where
  new : Lb W b3 T X tv' pv' ov' mv'
  old : Lb W w.heap.size T X tv pv ov mv
  res : W.heap[w.heap.size + 1]? = some (.cells zeroL T (0, 0))
  below : Below w.heap.size w W
  lt : w.heap.size + 1 < b3

theorem St.step {w W w3 : World} {b3 : Nat} {T : TypeId} {X : Lk} {tv pv ov mv tv' pv' ov' mv' : Value} (h : St w W b3 T X tv pv ov mv tv' pv' ov' mv') (hb : Below W.heap.size W w3) (i : Nat) (v tv2 pv2 ov2 : Value)
    (hset : (lcells X tv' pv' ov' mv').set i v = lcells X tv2 pv2 ov2 mv') : St w (w3.setCell ⟨b3, i, none⟩ v) b3 T X tv pv ov mv tv2 pv2 ov2 mv' ∧ Keeps (fun b => w.heap.size + 2 ≤ b ∧ b ≠ b3) W (w3.setCell ⟨b3, i, none⟩ v) := by
  have hlt := h.lt
  have hn : ∀ k, k ≠ b3 → k < W.heap.size → (w3.setCell ⟨b3, i, none⟩ v).heap[k]? = W.heap[k]? := fun k hk hl => (Below.heap_setCell _ _ _ _ hk).trans (hb.block k hl)
  refine ⟨⟨?_, (hn _ (by omega) h.old.lt).trans h.old, (hn _ (by omega) (Array.getElem?_eq_some_iff.1 h.res).1).trans h.res, (h.below.trans (hb.mono h.below.size)).setCell (p := ⟨b3, i, none⟩) (by simp; omega) _, hlt⟩, ⟨by simpa using hb.size, fun k hk hl => hn k hk.2 hl⟩⟩
  have := Go.heap_setCell_same w3 b3 i _ _ v ((hb.block _ h.new.lt).trans h.new)
  unfold Lb
  rw [this, ← hset]
  simp [List.setIfInBounds_toArray]
theorem lcells_set33 {X : Lk} (h : X.info.length = 32) (tv pv ov mv v : Value) : (lcells X tv pv ov mv).set 33 v = lcells X v pv ov mv := by simp [lcells, List.set_append, h]
theorem lcells_set34 {X : Lk} (h : X.info.length = 32) (tv pv ov mv v : Value) : (lcells X tv pv ov mv).set 34 v = lcells X tv v ov mv := by simp [lcells, List.set_append, h]
theorem lcells_set35 {X : Lk} (h : X.info.length = 32) (tv pv ov mv v : Value) : (lcells X tv pv ov mv).set 35 v = lcells X tv pv v mv := by simp [lcells, List.set_append, h]

set_option maxHeartbeats 2000000 in
set_option maxRecDepth 100000 in
theorem twin (ok : Nat → Prop) (X : Lk) (tv pv ov mv : Value) (w : World) (hX : RL w ok X tv pv ov mv) :
    Calls Tryz.prog 16 #[.agg (lcells X tv pv ov mv).toArray] w fun e w' => (∃ tv' pv' ov' mv', e = .returned (.agg (lcells X tv' pv' ov' mv').toArray) ∧ RL w' (fun b => w.heap.size ≤ b) X tv' pv' ov' mv') ∧ Below w.heap.size w w' := by
  have hi := hX.info
  have hB0 : Below w.heap.size w ((w.alloc (.cells (lcells X tv pv ov mv).toArray 29)).alloc (.cells zeroL 29)) := ((Below.refl _ _).alloc (Nat.le_refl _) _).alloc (by simp) _
  have hA : Lb ((w.alloc (.cells (lcells X tv pv ov mv).toArray 29)).alloc (.cells zeroL 29)) w.heap.size 29 X tv pv ov mv := heap_alloc2_old w _ _
  have hZ := heap_alloc2_new w (.cells (lcells X tv pv ov mv).toArray 29) (.cells zeroL 29)
  obtain ⟨W0, hW0⟩ : ∃ W0, (w.alloc (.cells (lcells X tv pv ov mv).toArray 29)).alloc (.cells zeroL 29) = W0 := ⟨_, rfl⟩
  have hz0 : W0.heap.size = w.heap.size + 2 := by rw [← hW0]; simp
  rw [hW0] at hB0 hA hZ
  have c32 := hA.cell 32
  have c36 := hA.cell 36
  rw [lcells_32 hi] at c32
  rw [lcells_36 hi] at c36
  have HA := Lib.hid hA
  have HZ := Lib.hid hZ
  have HI := Lib.hid hi
  have HR := Lib.hid (hA.info hi)
  have hS : (Tryz.prog.info? 24).map (·.size) = some (X.info.map fun b => Value.int .u8 (b.toNat : Int)).length := by simp [hi, sizeHash]
  have hUH := Tryz.underlying24
  clear hA hZ hi
  have hmore := hX.more
  have HM := Lib.hid hX.more
  obtain ⟨am, cm, rfl, _, _, _⟩ := hmore
  go_enter Tryz.func16, Tryz.ntmps16
  go_wp2_with fail
  have HK0 : Hid (∀ w1 : World, Lb w1 w.heap.size 29 X tv pv ov (.slice am X.xn cm) → (w1.rangeAt w.heap.size 0 (X.info.map fun b => Value.int .u8 (b.toNat : Int)) ∧ w1.cell? ⟨w.heap.size, 32, none⟩ = some (.string X.name) ∧ w1.cell? ⟨w.heap.size, 36, none⟩ = some (.slice am X.xn cm))) := fun w1 h =>
    ⟨h.info HI.out, (h.cell 32).trans (lcells_32 HI.out _ _ _ _), (h.cell 36).trans (lcells_36 HI.out _ _ _ _)⟩
  have HAd : Hid (Lb W0.drew w.heap.size 29 X tv pv ov (.slice am X.xn cm)) := HA.out
  have HKa : Hid (∀ (w1 : World) (ob : Obj), w.heap.size < w1.heap.size → Lb w1 w.heap.size 29 X tv pv ov (.slice am X.xn cm) → Lb (w1.alloc ob) w.heap.size 29 X tv pv ov (.slice am X.xn cm)) := fun w1 ob h h' => (Below.heap_alloc w1 ob _ h).trans h'
  have HKd : Hid (∀ (ob : Obj), Lb (W0.alloc ob).drew w.heap.size 29 X tv pv ov (.slice am X.xn cm)) := fun ob => (Below.heap_alloc W0 ob _ (by omega)).trans HA.out
  have HKs : Hid (∀ (w1 : World) (g : Nat) (cs : Array Value), w.heap.size < g → Lb w1 w.heap.size 29 X tv pv ov (.slice am X.xn cm) → Lb (w1.setRow g cs) w.heap.size 29 X tv pv ov (.slice am X.xn cm)) := fun w1 g cs h h' => (setRow_other _ _ _ _ (by omega)).trans h'
  have HK1 : Hid (∀ w1 : World, Below W0.drew.heap.size W0.drew w1 → Lb w1 w.heap.size 29 X tv pv ov (.slice am X.xn cm) ∧ w.heap.size + 1 < w1.heap.size) := fun w1 h =>
    ⟨(h.block w.heap.size (by simp; omega)).trans HA.out, by have := h.size; simp at this; omega⟩
  have HK2 : Hid (∀ w1 : World, Below (W0.alloc (.cells zeroL 29)).drew.heap.size (W0.alloc (.cells zeroL 29)).drew w1 → Lb w1 w.heap.size 29 X tv pv ov (.slice am X.xn cm) ∧ W0.heap.size < w1.heap.size ∧ w1.heap[W0.heap.size]? = some (.cells zeroL 29 (0, 0))) := fun w1 h =>
      ⟨(h.block w.heap.size (by simp; omega)).trans ((Below.heap_alloc W0 _ _ (by omega)).trans HA.out), by have := h.size; simp at this; omega, (h.block W0.heap.size (by simp)).trans (Go.heap_alloc_new W0 _)⟩
  have P1 : Hid (RP W0.drew ok X.xn X.xk X.xv (.slice am X.xn cm)) := RP.keep HM.out (Keeps.of_below hB0.drew)
  have P2 : Hid (RP (W0.alloc (.cells zeroL 29)).drew ok X.xn X.xk X.xv (.slice am X.xn cm)) := RP.keep HM.out (Keeps.of_below (hB0.alloc (by omega) _).drew)
  have HKt : Hid (∀ (w1 : World) (g : Nat) (a : Option Addr) (n c : Nat), w1.heap[g]? = some (.cells zeroL 29 (0, 0)) → (storeCells ⟨g, 0, none⟩ (lcells X (.slice none 0 0) (.slice none 0 0) (.slice none 0 0) (.slice a n c))).run Tryz.prog w1 = .ok () (w1.setRow g (lcells X (.slice none 0 0) (.slice none 0 0) (.slice none 0 0) (.slice a n c)).toArray)) := fun w1 g a n c h =>
    run_storeCells_list w1 g 29 _ _ h (by rw [lcells_length HI.out]; rfl) (lcells_one _ _ _ _ _ _ _ _ _ _ _ _)
  have HKn : Hid (∀ (w1 : World), (w1.alloc (.cells zeroL 29)).heap[w1.heap.size]? = some (.cells zeroL 29 (0, 0))) := fun w1 => Go.heap_alloc_new w1 _
  have hll : ∀ (a : Option Addr) (n c : Nat), (lcells X (.slice none 0 0) (.slice none 0 0) (.slice none 0 0) (.slice a n c)).length = 37 := fun a n c => lcells_length HI.out _ _ _ _
  have hi := HI.out
  have hlt0 : w.heap.size < W0.heap.size := by omega
  have HZ0 := Lib.hid hz0
  clear hz0
  go_region_held3 (fun w' => w'.rangeAt w.heap.size 0 (X.info.map fun b => Value.int .u8 (b.toNat : Int)) ∧ w'.cell? ⟨w.heap.size, 32, none⟩ = some (.string X.name) ∧ w'.cell? ⟨w.heap.size, 36, none⟩ = some (.slice am X.xn cm))
    (first
      | (with_reducible exact HK0.out _ HAd.out)
      | (with_reducible exact HK0.out _ (HKd.out _))
      | (with_reducible exact HK0.out _ HL1.out)
      | (with_reducible exact HK0.out _ (HKa.out _ _ hlt1 HL1.out))
      | (with_reducible exact HK0.out _ (HKs.out _ _ _ hlt1 (HKa.out _ _ hlt1 HL1.out)))
      | (with_reducible exact HK0.out _ (HKs.out _ _ _ hlt0 HL1.out)))
    (first
      | (go_at_call 39; (with_reducible refine (pairsTwin ok X.xn X.xk X.xv (fun j => valueTwin _) (.slice am X.xn cm) W0.drew P1.out).mono ?_); rintro e w1 ⟨⟨v', rfl, hp⟩, hb1⟩; have HP := Lib.hid hp; obtain ⟨a2, c2, rfl, _, _, _⟩ := hp; have HL1 := Lib.hid (HK1.out w1 hb1).1; have hz1 := (HK1.out w1 hb1).2; have hlt1 : w.heap.size < w1.heap.size := Nat.lt_of_succ_lt hz1; have hs := HKt.out _ w1.heap.size a2 X.xn c2 (HKn.out w1); have HB1 := Lib.hid hb1; clear hb1)
      | (go_at_call 39; (with_reducible refine (pairsTwin ok X.xn X.xk X.xv (fun j => valueTwin _) (.slice am X.xn cm) (W0.alloc (.cells zeroL 29)).drew P2.out).mono ?_); rintro e w1 ⟨⟨v', rfl, hp⟩, hb1⟩; have HP := Lib.hid hp; obtain ⟨a2, c2, rfl, _, _, _⟩ := hp; have HL1 := Lib.hid (HK2.out w1 hb1).1; have hz1 := (HK2.out w1 hb1).2.1; have HB3 := Lib.hid (HK2.out w1 hb1).2.2; have hs := HKt.out _ W0.heap.size a2 X.xn c2 HB3.out; have HB1 := Lib.hid hb1; clear hb1))
  obtain ⟨W2, hW2⟩ : ∃ W2, (w1.alloc (.cells zeroL 29)).setRow w1.heap.size (lcells X (.slice none 0 0) (.slice none 0 0) (.slice none 0 0) (.slice a2 X.xn c2)).toArray = W2 := ⟨_, rfl⟩
  obtain ⟨b3, hb3e⟩ : ∃ b3, w1.heap.size = b3 := ⟨_, rfl⟩
  have hBz := HB1.out.size
  have hz0 := HZ0.out
  have hS : Hid (St w W2 b3 29 X tv pv ov (.slice am X.xn cm) (.slice none 0 0) (.slice none 0 0) (.slice none 0 0) (.slice a2 X.xn c2)) := by
    rw [← hW2, ← hb3e]
    have hr := setRow_new w1 zeroL 29 (lcells X (.slice none 0 0) (.slice none 0 0) (.slice none 0 0) (.slice a2 X.xn c2)).toArray
    exact ⟨hr.1, (hr.2.1.block _ hlt1).trans HL1.out, (hr.2.1.block _ hz1).trans ((HB1.out.block _ (by simp; omega)).trans HZ.out), (hB0.drew.trans (HB1.out.mono (by simp; omega))).trans (hr.2.1.mono (by omega)), by omega⟩
  have hP : Hid (RP W2 (fun b => w.heap.size + 2 ≤ b ∧ b ≠ b3) X.xn X.xk X.xv (.slice a2 X.xn c2)) := by
    rw [← hW2, ← hb3e]
    have hr := setRow_new w1 zeroL 29 (lcells X (.slice none 0 0) (.slice none 0 0) (.slice none 0 0) (.slice a2 X.xn c2)).toArray
    exact RP.keep (RP.mono HP.out (fun q hq hl => ⟨by simp at hq; omega, by omega⟩)) (Keeps.of_below hr.2.1)
  clear hz1 hlt1 HL1 HP HB1 hBz hs
  rw [hW2]
  simp only [hb3e]
  clear hW2 hb3e
  rotate_left
  obtain ⟨W2, hW2⟩ : ∃ W2, w1.setRow W0.heap.size (lcells X (.slice none 0 0) (.slice none 0 0) (.slice none 0 0) (.slice a2 X.xn c2)).toArray = W2 := ⟨_, rfl⟩
  obtain ⟨b3, hb3e⟩ : ∃ b3, W0.heap.size = b3 := ⟨_, rfl⟩
  have hBz := HB1.out.size
  have hz0 := HZ0.out
  have hS : Hid (St w W2 b3 29 X tv pv ov (.slice am X.xn cm) (.slice none 0 0) (.slice none 0 0) (.slice none 0 0) (.slice a2 X.xn c2)) := by
    rw [← hW2, ← hb3e]
    have h0 := ((hB0.alloc (by omega) (.cells zeroL 29)).drew).trans (HB1.out.mono (by simp; omega))
    refine ⟨setRow_heap _ _ _ _ _ _ HB3.out, (setRow_other _ _ _ _ (by omega)).trans HL1.out, (setRow_other _ _ _ _ (by omega)).trans ((HB1.out.block _ (by simp; omega)).trans ((Below.heap_alloc W0 _ _ (by omega)).trans HZ.out)), ⟨h0.os, h0.tape, h0.output, by simpa using h0.size, fun k hk => (setRow_other _ _ _ _ (by omega)).trans (h0.block k hk)⟩, by omega⟩
  have hP : Hid (RP W2 (fun b => w.heap.size + 2 ≤ b ∧ b ≠ b3) X.xn X.xk X.xv (.slice a2 X.xn c2)) := by
    rw [← hW2, ← hb3e]
    refine RP.keep (RP.mono HP.out (fun q hq hl => ⟨by simp at hq; omega, by simp at hq; omega⟩)) ⟨by simp, fun k hk hl => setRow_other _ _ _ _ hk.2⟩
  clear hz1 HL1 HP HB1 hBz hs HB3
  rw [hW2]
  simp only [hb3e]
  clear hW2 hb3e
  all_goals
    rename_i hHeld
    clear hHeld c32 c36 HR hUH HZ hB0 HK0 HAd HKa HKd HKs HK1 HK2 P1 P2 HKt HKn hll hlt0
    obtain ⟨at1, ct1, rfl, hnil1, h201, hsm1, hnew1⟩ := RS.parts hX.trackers
    obtain ⟨at2, ct2, rfl, hnil2, h202, hsm2, hnew2⟩ := RS.parts hX.peers
    obtain ⟨at3, ct3, rfl, hnil3, h203, hsm3, hnew3⟩ := RR.parts hX.only
    have HM1 := Lib.hid hsm1
    have HM2 := Lib.hid hsm2
    have HM3 := Lib.hid hsm3
    have HX1 := Lib.hid hX.trackers
    have HX2 := Lib.hid hX.peers
    have HX3 := Lib.hid hX.only
    have HNM := Lib.hid hX.name
    clear hnew1 hnew2 hnew3 hsm1 hsm2 hsm3 hX hi hz0
    have q1 := (hS.out.new.cell 33).trans (lcells_33 HI.out _ _ _ _)
    have q2 := (hS.out.old.cell 33).trans (lcells_33 HI.out _ _ _ _)
    go_wp2_with (at_builtin; refine wpList_app_nil rfl _ _ 25 rfl 9 _ 1 16 infoS rfl (by decide) Tryz.underlying25 rfl at1 X.trackers.length ct1 _ rfl (flat_length _ 1 (fun _ => rfl) _) (RS.news HX1.out hS.out.below) hnil1 (tx_one _ _) (by unfold maxLen; omega) (by omega) ?_)
    intro v1 w3 ho1 hb1
    obtain ⟨a1', c1', rfl, _⟩ := owns_at (tx X.trackers) (fun _ => rfl) ho1 (by decide) h201
    have hR1 : Hid (RS w3 (fun b => W2.heap.size ≤ b) X.trackers (.slice a1' X.trackers.length c1')) := RS.of_own ho1 h201 HM1.out
    obtain ⟨hS3, hK3⟩ := hS.out.step hb1 33 (.slice a1' X.trackers.length c1') _ _ _ (lcells_set33 HI.out _ _ _ _ _)
    have hR1' : Hid (RS (w3.setCell ⟨b3, 33, none⟩ (.slice a1' X.trackers.length c1')) (fun b => w.heap.size + 2 ≤ b ∧ b ≠ b3) X.trackers (.slice a1' X.trackers.length c1')) := by
      have hl := hS.out.new.lt
      have hl' := hS.out.lt
      exact RS.mono (RS.keep hR1.out ((Keeps.refl _ _).setCell _ _ (by simp; omega))) (fun k hk _ => ⟨by omega, by omega⟩)
    have hP1 : Hid (RP (w3.setCell ⟨b3, 33, none⟩ (.slice a1' X.trackers.length c1')) (fun b => w.heap.size + 2 ≤ b ∧ b ≠ b3) X.xn X.xk X.xv (.slice a2 X.xn c2)) := RP.keep hP.out hK3
    obtain ⟨W3, hW3⟩ : ∃ W3, w3.setCell ⟨b3, 33, none⟩ (.slice a1' X.trackers.length c1') = W3 := ⟨_, rfl⟩
    rw [hW3] at hS3 hR1' hP1
    have e1 : w3.cell? ⟨b3, 33, none⟩ = some (.slice none 0 0) := by rw [Lib.cell_of_heap ((hb1.block _ hS.out.new.lt).trans hS.out.new)]; simp [lcells_33 HI.out]
    have e2 : w3.frozen? ⟨b3, 33, none⟩ = false := Lib.frozen_of_heap ((hb1.block _ hS.out.new.lt).trans hS.out.new) 33
    have HS3 := Lib.hid hS3
    clear q1 q2 hS hP hR1 ho1 hb1 hK3 hS3
    have q1 := (HS3.out.new.cell 34).trans (lcells_34 HI.out _ _ _ _)
    have q2 := (HS3.out.old.cell 34).trans (lcells_34 HI.out _ _ _ _)
    go_wp2_with (at_builtin; refine wpList_app_nil rfl _ _ 25 rfl 9 _ 1 16 infoS rfl (by decide) Tryz.underlying25 rfl at2 X.peers.length ct2 _ rfl (flat_length _ 1 (fun _ => rfl) _) (RS.news HX2.out HS3.out.below) hnil2 (tx_one _ _) (by unfold maxLen; omega) (by omega) ?_)
    intro v2 w4 ho2 hb2
    obtain ⟨a2', c2', rfl, _⟩ := owns_at (tx X.peers) (fun _ => rfl) ho2 (by decide) h202
    have hR2 : Hid (RS w4 (fun b => W3.heap.size ≤ b) X.peers (.slice a2' X.peers.length c2')) := RS.of_own ho2 h202 HM2.out
    obtain ⟨hS4, hK4⟩ := HS3.out.step hb2 34 (.slice a2' X.peers.length c2') _ _ _ (lcells_set34 HI.out _ _ _ _ _)
    have hR2' : Hid (RS (w4.setCell ⟨b3, 34, none⟩ (.slice a2' X.peers.length c2')) (fun b => w.heap.size + 2 ≤ b ∧ b ≠ b3) X.peers (.slice a2' X.peers.length c2')) := by
      have hl := HS3.out.new.lt
      have hl' := HS3.out.lt
      exact RS.mono (RS.keep hR2.out ((Keeps.refl _ _).setCell _ _ (by simp; omega))) (fun k hk _ => ⟨by omega, by omega⟩)
    have hP2 : Hid (RP (w4.setCell ⟨b3, 34, none⟩ (.slice a2' X.peers.length c2')) (fun b => w.heap.size + 2 ≤ b ∧ b ≠ b3) X.xn X.xk X.xv (.slice a2 X.xn c2)) := RP.keep hP1.out hK4
    have hR1x : Hid (RS (w4.setCell ⟨b3, 34, none⟩ (.slice a2' X.peers.length c2')) (fun b => w.heap.size + 2 ≤ b ∧ b ≠ b3) X.trackers (.slice a1' X.trackers.length c1')) := RS.keep hR1'.out hK4
    obtain ⟨W4, hW4⟩ : ∃ W4, w4.setCell ⟨b3, 34, none⟩ (.slice a2' X.peers.length c2') = W4 := ⟨_, rfl⟩
    rw [hW4] at hS4 hR2' hP2 hR1x
    have e3 : w4.cell? ⟨b3, 34, none⟩ = some (.slice none 0 0) := by rw [Lib.cell_of_heap ((hb2.block _ HS3.out.new.lt).trans HS3.out.new)]; simp [lcells_34 HI.out]
    have e4 : w4.frozen? ⟨b3, 34, none⟩ = false := Lib.frozen_of_heap ((hb2.block _ HS3.out.new.lt).trans HS3.out.new) 34
    have HS4 := Lib.hid hS4
    clear q1 q2 HS3 hP1 hR2 ho2 hb2 hK4 hS4 e1 e2 hW3 hR1'
    have q1 := (HS4.out.new.cell 35).trans (lcells_35 HI.out _ _ _ _)
    have q2 := (HS4.out.old.cell 35).trans (lcells_35 HI.out _ _ _ _)
    go_wp2_with (at_builtin; refine wpList_app_nil rfl _ _ 26 rfl 43 _ 2 16 infoR rfl (by decide) Tryz.underlying26 rfl at3 X.only.length ct3 _ rfl (flat_length _ 2 (fun _ => rfl) _) (RR.news HX3.out HS4.out.below) hnil3 (rx_one _ _) (by unfold maxLen; omega) (by omega) ?_)
    intro v3 w5 ho3 hb3
    obtain ⟨a3', c3', rfl, _⟩ := owns_at (rx X.only) (fun _ => rfl) ho3 (by decide) h203
    have hR3 : Hid (RR w5 (fun b => W4.heap.size ≤ b) X.only (.slice a3' X.only.length c3')) := RR.of_own ho3 h203 HM3.out
    obtain ⟨hS5, hK5⟩ := HS4.out.step hb3 35 (.slice a3' X.only.length c3') _ _ _ (lcells_set35 HI.out _ _ _ _ _)
    have hR3' : Hid (RR (w5.setCell ⟨b3, 35, none⟩ (.slice a3' X.only.length c3')) (fun b => w.heap.size + 2 ≤ b ∧ b ≠ b3) X.only (.slice a3' X.only.length c3')) := by
      have hl := HS4.out.new.lt
      have hl' := HS4.out.lt
      exact RR.mono (RR.keep hR3.out ((Keeps.refl _ _).setCell _ _ (by simp; omega))) (fun k hk _ => ⟨by omega, by omega⟩)
    have hP3 : Hid (RP (w5.setCell ⟨b3, 35, none⟩ (.slice a3' X.only.length c3')) (fun b => w.heap.size + 2 ≤ b ∧ b ≠ b3) X.xn X.xk X.xv (.slice a2 X.xn c2)) := RP.keep hP2.out hK5
    have hR1y : Hid (RS (w5.setCell ⟨b3, 35, none⟩ (.slice a3' X.only.length c3')) (fun b => w.heap.size + 2 ≤ b ∧ b ≠ b3) X.trackers (.slice a1' X.trackers.length c1')) := RS.keep hR1x.out hK5
    have hR2y : Hid (RS (w5.setCell ⟨b3, 35, none⟩ (.slice a3' X.only.length c3')) (fun b => w.heap.size + 2 ≤ b ∧ b ≠ b3) X.peers (.slice a2' X.peers.length c2')) := RS.keep hR2'.out hK5
    obtain ⟨W5, hW5⟩ : ∃ W5, w5.setCell ⟨b3, 35, none⟩ (.slice a3' X.only.length c3') = W5 := ⟨_, rfl⟩
    rw [hW5] at hS5 hR3' hP3 hR1y hR2y
    have e5 : w5.cell? ⟨b3, 35, none⟩ = some (.slice none 0 0) := by rw [Lib.cell_of_heap ((hb3.block _ HS4.out.new.lt).trans HS4.out.new)]; simp [lcells_35 HI.out]
    have e6 : w5.frozen? ⟨b3, 35, none⟩ = false := Lib.frozen_of_heap ((hb3.block _ HS4.out.new.lt).trans HS4.out.new) 35
    have HS5 := Lib.hid hS5
    clear q1 q2 HS4 hP2 hR3 ho3 hb3 hK5 hS5 e3 e4 hW4 hR1x hR2'
    have hs5 := run_storeCells_list (P := Tryz.prog) W5 (w.heap.size + 1) 29 _ (lcells X (.slice a1' X.trackers.length c1') (.slice a2' X.peers.length c2') (.slice a3' X.only.length c3') (.slice a2 X.xn c2)) HS5.out.res (by rw [lcells_length HI.out]; rfl) (lcells_one _ _ _ _ _ _ _ _ _ _ _ _)
    have hll5 : (lcells X (.slice a1' X.trackers.length c1') (.slice a2' X.peers.length c2') (.slice a3' X.only.length c3') (.slice a2 X.xn c2)).length = 37 := lcells_length HI.out _ _ _ _
    have HSL : Hid ((Tryz.prog.info? 29).map (·.size) = some (lcells X (.slice a1' X.trackers.length c1') (.slice a2' X.peers.length c2') (.slice a3' X.only.length c3') (.slice a2 X.xn c2)).toArray.size) := by
      simp only [List.size_toArray, hll5]; exact sizeL
    go_wp2_with (refine wpList_load_row rfl 29 _ rfl b3 rfl 29 (lcells X (.slice a1' X.trackers.length c1') (.slice a2' X.peers.length c2') (.slice a3' X.only.length c3') (.slice a2 X.xn c2)).toArray (0, 0) _ HS5.out.new Tryz.underlying29 rfl HSL.out ?_)
    have hf := setRow_heap W5 (w.heap.size + 1) _ (lcells X (.slice a1' X.trackers.length c1') (.slice a2' X.peers.length c2') (.slice a3' X.only.length c3') (.slice a2 X.xn c2)).toArray 29 (0, 0) HS5.out.res
    have hke : Keeps (fun b => w.heap.size + 2 ≤ b ∧ b ≠ b3) W5 (W5.setRow (w.heap.size + 1) (lcells X (.slice a1' X.trackers.length c1') (.slice a2' X.peers.length c2') (.slice a3' X.only.length c3') (.slice a2 X.xn c2)).toArray) := ⟨by simp, fun k hk hl => setRow_other _ _ _ _ (by omega)⟩
    have hbe : Below w.heap.size w (W5.setRow (w.heap.size + 1) (lcells X (.slice a1' X.trackers.length c1') (.slice a2' X.peers.length c2') (.slice a3' X.only.length c3') (.slice a2 X.xn c2)).toArray) := by
      have h0 := HS5.out.below
      exact ⟨h0.os, h0.tape, h0.output, by simpa using h0.size, fun k hk => (setRow_other _ _ _ _ (by omega)).trans (h0.block k hk)⟩
    have hup : ∀ (W' : World) k, (w.heap.size + 2 ≤ k ∧ k ≠ b3) → k < W'.heap.size → w.heap.size ≤ k := fun _ k hk _ => by omega
    refine bodyPost_ret (results_cell_row rfl _ _ (w.heap.size + 1) 29 _ (0, 0) _ rfl hf Tryz.underlying29 rfl HSL.out) rfl ⟨⟨_, _, _, _, rfl, ⟨HI.out, HNM.out, RS.mono (RS.keep hR1y.out hke) (hup _), RS.mono (RS.keep hR2y.out hke) (hup _), RR.mono (RR.keep hR3'.out hke) (hup _), RP.mono (RP.keep hP3.out hke) (hup _)⟩⟩, hbe⟩

end Go.Proofs.YtdfiblaboddbjaaGreatDoor.Twin
