/-
  The program's Parse.
-/
import Derived.Test.YtdfiblaboddbjaaGreatDoorMagPgT
import Derived.Test.YtdfiblaboddbjaaGreatDoorMagPgI
namespace Go.Proofs.YtdfiblaboddbjaaGreatDoor.Prs
open Go.RowKit Go.Shelf Go.Proofs.YtdfiblaboddbjaaGreatDoor.Base Go.Proofs.YtdfiblaboddbjaaGreatDoor.Rep Go.Proofs.YtdfiblaboddbjaaGreatDoor.Mag Go.Proofs.YtdfiblaboddbjaaGreatDoor.Has
set_option linter.unusedVariables false
set_option linter.unusedSimpArgs false

/-- The nil reader's cells. -/
def bareR : List Value := rcells Pk.bare (.slice none 0 0) (.slice none 0 0) (.slice none 0 0) (.slice none 0 0) 0 ⟨#[]⟩
theorem builtR : Tryz.prog.built 60 [] = some bareR.toArray := by kernel_rfl
theorem run_buildR (w : World) : (Instr.build 60 #[]).run Tryz.prog w = .ok (.agg bareR.toArray) w := run_build w _ _ _ builtR
/-- The reader's pointer is loaded. -/
theorem run_load66 {w : World} {g : Nat} {v : Option Addr} {fr : Nat × Nat} {t : TypeId} (hg : w.heap[g]? = some (.cells #[.pointer v] t fr)) : (Instr.loadAt 58 (.pointer (some ⟨g, 0, none⟩))).run Tryz.prog w = .ok (.pointer v) w := by
  have hc : w.cell? ⟨g, 0, none⟩ = some (.pointer v) := by rw [Lib.cell_of_heap hg]; rfl
  have hu := Tryz.underlying58
  simp [go_sem, hc, hu]
attribute [-go_sem] Instr.build Instr.loadAt
attribute [local go_sem] run_build0 run_buildR Oper.semAt_some

/-- The program's parts. -/
theorem parts (s : ByteArray) (o : Nat) (w : World) :
    Calls Tryz.prog 23 #[.string s, .int .i64 (o : Int)] w fun e w' => e = .returned (.func (.func 41) #[] #[.pointer (some ⟨w.heap.size + 1, 0, none⟩), .pointer (some ⟨w.heap.size, 0, none⟩)]) ∧ Below w.heap.size w w' ∧ w'.heap.size = w.heap.size + 2 ∧ w'.heap[w.heap.size]? = some (.cells #[.string s] 9 (0, 0)) ∧ w'.cell? ⟨w.heap.size + 1, 0, none⟩ = some (.int .i64 (o : Int)) := by
  have h1 : Below w.heap.size w ((w.alloc (.cells #[.string s] 9)).alloc (.cells #[.int .i64 (o : Int)] 3)) := ((Below.refl _ _).alloc (Nat.le_refl _) _).alloc (by simp) _
  have h2 : ((w.alloc (.cells #[.string s] 9)).alloc (.cells #[.int .i64 (o : Int)] 3)).heap[w.heap.size]? = some (.cells #[.string s] 9 (0, 0)) := (Below.heap_alloc _ _ _ (by simp)).trans (Go.heap_alloc_new w _)
  have H1 := Lib.hid h1
  have H2 := Lib.hid h2
  clear h1 h2
  go_enter Tryz.func23, Tryz.ntmps23
  go_wp2
  go_ret
  exact ⟨rfl, H1.out, by simp, H2.out, by simp⟩

theorem own_off {w w' : World} {B e s n : Nat} {v : Value} {xs : List Value} {row : Option Nat} (h : w.ownsRow B e s v n xs) (hg : w.grownBy w' row) (hr : ∀ r, row = some r → ∃ o : Obj, w.heap[r]? = some o ∧ o.isCells = false) : w'.ownsRow B e s v n xs := by
  refine h.kept hg ?_
  rcases h.2 with ⟨rfl, _⟩ | ⟨g, cap, cur, rfl, _, hgb, _⟩
  · exact Or.inl rfl
  · refine Or.inr (fun e => ?_)
    obtain ⟨o, ho, hc⟩ := hr g e.symm
    rw [hgb] at ho
    injection ho with ho
    subst ho
    cases hc
theorem OL.off {w w' : World} {B N : Nat} {P : Pk} {tv pv ov mv : Value} {row : Option Nat} (h : OL w B N P tv pv ov mv) (hg : w.grownBy w' row) (hr : ∀ r, row = some r → ∃ o : Obj, w.heap[r]? = some o ∧ o.isCells = false) : OL w' B N P tv pv ov mv :=
  ⟨h.info, h.name, own_off h.tr hg hr, own_off h.pe hg hr, own_off h.on hg hr, own_off h.mo hg hr, h.tp, h.cnt, h.trs, h.pes, h.mos, h.who⟩
theorem own_base {w : World} {B B' e s n : Nat} {v : Value} {xs : List Value} (h : w.ownsRow B e s v n xs) (hB : B' ≤ B) : w.ownsRow B' e s v n xs := by
  refine ⟨h.1, ?_⟩
  rcases h.2 with h2 | ⟨g, cap, cur, h1, h2, h3⟩
  · exact Or.inl h2
  · exact Or.inr ⟨g, cap, cur, h1, Nat.le_trans hB h2, h3⟩
theorem OL.base {w : World} {B B' N : Nat} {P : Pk} {tv pv ov mv : Value} (h : OL w B N P tv pv ov mv) (hB : B' ≤ B) : OL w B' N P tv pv ov mv :=
  ⟨h.info, h.name, own_base h.tr hB, own_base h.pe hB, own_base h.on hB, own_base h.mo hB, h.tp, h.cnt, h.trs, h.pes, h.mos, h.who⟩

/-- Parse's boxes stay, but the reader. -/
def Boxes (N : Nat) (W W' : World) : Prop := ∀ q, q < N + 7 → q ≠ N + 3 → W'.heap[q]? = W.heap[q]?
def bare0 : Way := ⟨Pk.bare, 0, ⟨#[]⟩, none⟩
/-- Between two rounds. -/
def IP (N : Nat) (w WL : World) (pre : List Part) (W : World) : Prop :=
  (∃ (P : Pk) (tv pv ov mv : Value) (last : ByteArray), foldO (ofs pre) bare0 = ⟨P, pre.length, last, none⟩ ∧ Inv P pre.length last ∧ Rd W (N + 3) P tv pv ov mv pre.length last ∧ OL W (N + 7) pre.length P tv pv ov mv ∧ Boxes N WL W) ∧ Below N w W
/-- A round has left. -/
def IX (N : Nat) (w : World) (c : Code) (pre : List Part) (W : World) : Prop :=
  (c = .ret ∧ ∃ (P : Pk) (n : Nat) (last : ByteArray) (a e : Int), foldO (ofs pre) bare0 = ⟨P, n, last, some (a, e)⟩ ∧ W.heap[N]? = some (.cells bareC.toArray 29 (0, 0)) ∧ W.heap[N + 1]? = some (.cells #[.int .i64 a] 3 (0, 0)) ∧ W.heap[N + 2]? = some (.cells #[.int .i64 e] 30 (0, 0))) ∧ Below N w W
theorem off_block {A B : World} {row : Option Nat} {D q : Nat} (hg : A.grownBy B row) (hr : ∀ r, row = some r → D ≤ r ∧ ∃ o : Obj, A.heap[r]? = some o ∧ o.isCells = false) (hq : q < D) (hD : D ≤ A.heap.size) : B.heap[q]? = A.heap[q]? :=
  hg.block q (by omega) (fun e => by have := (hr q e.symm).1; omega)
theorem ip_own (N : Nat) (w WL : World) (hw : w.heap.size = N) (hWL : WL.heap.size = N + 7) : OwnFrom (N + 7) (IP N w WL) := by
  rintro pre A B row ⟨⟨P, tv, pv, ov, mv, last, h1, h2, h3, h4, h5⟩, hB⟩ hg hr
  have hsz : N + 3 < A.heap.size := h3.lt
  have blk : ∀ q, q < N + 7 → (∃ o : Obj, A.heap[q]? = some o) → B.heap[q]? = A.heap[q]? := fun q hq ⟨o, ho⟩ =>
    hg.block q (Array.getElem?_eq_some_iff.1 ho).1 (fun e => by have := (hr q e.symm).1; omega)
  refine ⟨⟨P, tv, pv, ov, mv, last, h1, h2, (blk _ (by omega) ⟨_, h3⟩).trans h3, h4.off hg (fun r e => (hr r e).2), fun q hq hne => ?_⟩, ?_⟩
  · have : ∃ o : Obj, A.heap[q]? = some o := by
      rw [h5 q hq hne, Array.getElem?_eq_getElem (by omega)]; exact ⟨_, rfl⟩
    rw [blk q hq this]; exact h5 q hq hne
  · exact hB.grown hg (by have := hB.size; omega) (fun k e => by have := (hr k e).1; omega)
theorem ix_own (N : Nat) (w : World) (hw : w.heap.size = N) (c : Code) : OwnFrom (N + 7) (IX N w c) := by
  rintro pre A B row ⟨⟨hc, P, n, last, a, e, h1, h2, h3, h4⟩, hB⟩ hg hr
  have blk : ∀ q (o : Obj), q < N + 7 → A.heap[q]? = some o → B.heap[q]? = some o := fun q o hq ho =>
    (hg.block q (Array.getElem?_eq_some_iff.1 ho).1 (fun e => by have := (hr q e.symm).1; omega)).trans ho
  exact ⟨⟨hc, P, n, last, a, e, h1, blk _ _ (by omega) h2, blk _ _ (by omega) h3, blk _ _ (by omega) h4⟩, hB.grown hg (by have := hB.size; omega) (fun k e => by have := (hr k e).1; omega)⟩
theorem kpS_b {Bs : Nat} {w : World} (hb : Bs < w.heap.size) (W : World) (l : Nat) (o o' : Obj) (hl : w.heap.size ≤ l) (h : W.heap[l]? = some o) (_ : o.isCells = false) (_ : o.isWalk = false) : KpS Bs W (W.putObj l o') :=
  World.putObj_heap_other (by omega)
theorem kpS_t {Bs : Nat} {A B C : World} (h : KpS Bs A B) (k : KpS Bs B C) : KpS Bs A C := Eq.trans k h
theorem keepsFrom_R {B b D : Nat} {W W' : World} (h : KeptR B b W W') : KeepsFrom D W W' := ⟨h.1, fun k o _ hk ho => h.2.2 k o hk (by rintro cs T fr rfl; cases ho)⟩

theorem run_loadVar_one {P : Program} {w : World} {g : Nat} {t ty : TypeId} {v : Value} {fr : Nat × Nat} {d : TypeDesc} (hg : w.heap[g]? = some (.cells #[v] t fr)) (hu : P.underlying ty = some d) (hd : (match d with | .struct _ | .array _ _ => true | _ => false) = false) :
    (loadVar ty ⟨g, 0, none⟩).run P w = .ok v w := by
  have hc : w.cell? ⟨g, 0, none⟩ = some v := by rw [Lib.cell_of_heap hg]; rfl
  have hagg : (isAgg ty).run P w = .ok false w := by
    unfold isAgg
    rw [Sem.run_bind, run_underlying hu w]
    cases d <;> simp_all
  simp [loadVar, Sem.run_bind, hagg, go_sem, hc]

section
variable {P : Program} {fn : Func} {p q r : Tmp} {t1 t2 t3 : TypeId} {tmps : Array Value} {w : World} {g h k : Nat} {s1 s2 s3 : TypeId} {cs : Array Value} {f1 f2 f3 : Nat × Nat} {d : TypeDesc} {u v : Value}
/-- Three variables as results, the first of many cells. -/
theorem results_cells3 (hr : fn.results = #[.cell p t1, .cell q t2, .cell r t3]) (hp : tmps.getD p undef = .pointer (some ⟨g, 0, none⟩)) (hq : tmps.getD q undef = .pointer (some ⟨h, 0, none⟩)) (hk : tmps.getD r undef = .pointer (some ⟨k, 0, none⟩)) (h1 : w.heap[g]? = some (.cells cs s1 f1))
    (hu : P.underlying t1 = some d) (hd : (match d with | .struct _ | .array _ _ => true | _ => false) = true) (hi : (P.info? t1).map (·.size) = some cs.size)
    (h2 : (loadVar t2 ⟨h, 0, none⟩).run P w = .ok u w) (h3 : (loadVar t3 ⟨k, 0, none⟩).run P w = .ok v w) :
    (results fn tmps).run P w = .ok (.tuple #[.agg cs, u, v]) w := by
  have hp' : tmps[p]?.getD undef = .pointer (some ⟨g, 0, none⟩) := by simpa using hp
  have hq' : tmps[q]?.getD undef = .pointer (some ⟨h, 0, none⟩) := by simpa using hq
  have hk' : tmps[r]?.getD undef = .pointer (some ⟨k, 0, none⟩) := by simpa using hk
  simp [results, hr, hp', hq', hk', asAddr, run_loadVar_row w g s1 t1 cs f1 d h1 hu hd hi, h2, h3]
end

set_option maxHeartbeats 16000000 in
set_option maxRecDepth 100000 in
theorem parse (s : ByteArray) (w : World) (hs : s.size ≤ 1048576) (hG : Ground w) :
    Calls Tryz.prog 8 #[.string s] w fun e w' => (∃ tv pv ov mv, e = .returned (.tuple #[.agg (lcells (parseS s.data.toList).1.lk tv pv ov mv).toArray, .int .i64 (parseS s.data.toList).2.1, .int .i64 (parseS s.data.toList).2.2]) ∧ OL w' w.heap.size 5000 (parseS s.data.toList).1 tv pv ov mv) ∧ Below w.heap.size w w' := by
  have hsl : s.data.toList.length = s.size := by simp
  have hB0 : Below w.heap.size w (w.alloc (.cells Twin.zeroL 29)) := (Below.refl _ _).alloc (Nat.le_refl _) _
  have hZ : (w.alloc (.cells Twin.zeroL 29)).heap[w.heap.size]? = some (.cells Twin.zeroL 29 (0, 0)) := Go.heap_alloc_new w _
  obtain ⟨W0, hW0⟩ : ∃ W0, w.alloc (.cells Twin.zeroL 29) = W0 := ⟨_, rfl⟩
  have hz0 : W0.heap.size = w.heap.size + 1 := by rw [← hW0]; simp
  rw [hW0] at hB0 hZ
  have HZ := Lib.hid hZ
  have HB0 := Lib.hid hB0
  clear hZ hB0
  -- what an early return leaves
  have early : ∀ (E : Int), parseS s.data.toList = (Pk.bare, 0, E) → ∀ W2, (W0.alloc (.cells #[.int .i64 0] 3)).alloc (.cells #[.int .i64 0] 30) = W2 →
      ∃ W6, (storeCells ⟨w.heap.size, 0, none⟩ bareC).run Tryz.prog W2 = .ok () W6 ∧ W6.cell? ⟨w.heap.size + 1, 0, none⟩ = some (.int .i64 0) ∧ W6.frozen? ⟨w.heap.size + 1, 0, none⟩ = false ∧
          ∃ W7, W6.setCell ⟨w.heap.size + 1, 0, none⟩ (.int .i64 0) = W7 ∧ W7.cell? ⟨w.heap.size + 1 + 1, 0, none⟩ = some (.int .i64 0) ∧ W7.frozen? ⟨w.heap.size + 1 + 1, 0, none⟩ = false ∧
          ∃ W8, W7.setCell ⟨w.heap.size + 1 + 1, 0, none⟩ (.int .i64 E) = W8 ∧ Hid (W8.heap[w.heap.size]? = some (.cells bareC.toArray 29 (0, 0)) ∧ W8.heap[w.heap.size + 1]? = some (.cells #[.int .i64 0] 3 (0, 0)) ∧ W8.heap[w.heap.size + 2]? = some (.cells #[.int .i64 E] 30 (0, 0)) ∧ Below w.heap.size w W8) := by
    intro E hE W2 hW2
    have hz2 : W2.heap.size = w.heap.size + 3 := by rw [← hW2]; simp; omega
    have hb2 : Below W0.heap.size W0 W2 := by rw [← hW2]; exact ((Below.refl _ _).alloc (Nat.le_refl _) _).alloc (by simp) _
    have c0 := (hb2.block w.heap.size (by omega)).trans HZ.out
    have c1 : W2.heap[w.heap.size + 1]? = some (.cells #[.int .i64 0] 3 (0, 0)) := by
      have h1 := Go.heap_alloc_new W0 (.cells #[.int .i64 0] 3)
      rw [hz0] at h1
      rw [← hW2]
      exact (Below.heap_alloc _ _ _ (by simp; omega)).trans h1
    have c2 : W2.heap[w.heap.size + 2]? = some (.cells #[.int .i64 0] 30 (0, 0)) := by
      have h1 := Go.heap_alloc_new (W0.alloc (.cells #[.int .i64 0] 3)) (.cells #[.int .i64 0] 30)
      rw [World.size_alloc, hz0] at h1
      rw [← hW2]; exact h1
    have hB2 : Below w.heap.size w W2 := HB0.out.trans (hb2.mono (by omega))
    obtain ⟨W6, hW6⟩ : ∃ W6, W2.setRow w.heap.size bareC.toArray = W6 := ⟨_, rfl⟩
    have hs := (OL.bare W2 (w.heap.size + 7) 0).store W2 w.heap.size _ rfl c0
    have g6 : W2.grownBy W6 (some w.heap.size) := hW6 ▸ grown_setRow _ _ _
    have d0 : W6.heap[w.heap.size]? = some (.cells bareC.toArray 29 (0, 0)) := by rw [← hW6]; exact setRow_heap _ _ _ _ _ _ c0
    have d1 := (g6.block _ (by omega) (by intro e; injection e with e; omega)).trans c1
    have d2 := (g6.block _ (by omega) (by intro e; injection e with e; omega)).trans c2
    have hs6 := g6.size
    obtain ⟨W7, hW7⟩ : ∃ W7, W6.setCell ⟨w.heap.size + 1, 0, none⟩ (.int .i64 0) = W7 := ⟨_, rfl⟩
    have g7 : W6.grownBy W7 (some (w.heap.size + 1)) := hW7 ▸ grown_setCell _ _ _ _
    have e0 := (g7.block _ (by omega) (by intro e; injection e with e; omega)).trans d0
    have e1 : W7.heap[w.heap.size + 1]? = some (.cells #[.int .i64 0] 3 (0, 0)) := by rw [← hW7, heap_setCell_same _ _ _ _ _ _ d1]; rfl
    have e2 := (g7.block _ (by omega) (by intro e; injection e with e; omega)).trans d2
    have hs7 := g7.size
    obtain ⟨W8, hW8⟩ : ∃ W8, W7.setCell ⟨w.heap.size + 1 + 1, 0, none⟩ (.int .i64 E) = W8 := ⟨_, rfl⟩
    have g8 : W7.grownBy W8 (some (w.heap.size + 1 + 1)) := hW8 ▸ grown_setCell _ _ _ _
    have f0 := (g8.block _ (by omega) (by intro e; injection e with e; omega)).trans e0
    have f1 := (g8.block _ (by omega) (by intro e; injection e with e; omega)).trans e1
    have f2 : W8.heap[w.heap.size + 2]? = some (.cells #[.int .i64 E] 30 (0, 0)) := by rw [← hW8, heap_setCell_same _ _ _ _ _ _ e2]; rfl
    exact ⟨W6, by rw [← hW6]; exact hs, by rw [Lib.cell_of_heap d1]; rfl, Lib.frozen_of_heap d1 0, W7, hW7, by rw [Lib.cell_of_heap e2]; rfl, Lib.frozen_of_heap e2 0, W8, hW8, ⟨f0, f1, f2, Below.turn (Below.turn (Below.turn hB2 g6 (Nat.le_refl _) (by omega)) g7 (by omega) (by omega)) g8 (by omega) (by omega)⟩⟩
  have hzB : (Tryz.prog.info? 29).map (·.size) = some bareC.toArray.size := sizeLQ (X := Pk.bare.lk) rfl _ _ _ _
  have hbl := bareC_len
  have EARLY := Lib.hid early
  have HZB := Lib.hid hzB
  clear early hzB
  by_cases h4 : 4096 < s.size
  · have hPP : parseS s.data.toList = (Pk.bare, 0, 221) := by unfold parseS; rw [if_pos (by rw [hsl]; exact h4)]
    have h4' : (4096 : Int) < (s.size : Int) := by omega
    obtain ⟨W2, hW2⟩ : ∃ W2, (W0.alloc (.cells #[.int .i64 0] 3)).alloc (.cells #[.int .i64 0] 30) = W2 := ⟨_, rfl⟩
    obtain ⟨W6, hs6, c6, f6, W7, hW7, c7, f7, W8, hW8, H8⟩ := EARLY.out 221 hPP W2 hW2
    have HPP := Lib.hid hPP
    clear hPP
    go_enter Tryz.func8, Tryz.ntmps8
    go_wp2
    obtain ⟨p0, p1, p2, hB⟩ := H8.out
    exact bodyPost_ret (results_cells3 rfl rfl rfl rfl p0 Tryz.underlying29 rfl HZB.out (run_loadVar_one p1 Tryz.underlying3 rfl) (run_loadVar_one p2 Tryz.underlying30 rfl)) rfl ⟨⟨.slice none 0 0, .slice none 0 0, .slice none 0 0, .slice none 0 0, by rw [HPP.out]; rfl, by rw [HPP.out]; exact OL.bare _ _ _⟩, hB⟩
  obtain ⟨pb, hpb⟩ : ∃ pb, begins.isPrefixOf s.data.toList = pb := ⟨_, rfl⟩
  have h4' : ¬ (4096 : Int) < (s.size : Int) := by omega
  cases pb with
  | false =>
    have hPP : parseS s.data.toList = (Pk.bare, 0, 220) := by unfold parseS; rw [if_neg (by rw [hsl]; exact h4), if_neg (by rw [hpb]; simp)]
    obtain ⟨W2, hW2⟩ : ∃ W2, (W0.alloc (.cells #[.int .i64 0] 3)).alloc (.cells #[.int .i64 0] 30) = W2 := ⟨_, rfl⟩
    obtain ⟨W6, hs6, c6, f6, W7, hW7, c7, f7, W8, hW8, H8⟩ := EARLY.out 220 hPP W2 hW2
    have HPP := Lib.hid hPP
    have hpre : ∀ w', Calls Tryz.prog 22 #[.string s, .string ⟨#[109, 97, 103, 110, 101, 116, 58, 63]⟩] w' fun e w'' => e = .returned (.bool false) ∧ w'' = w' := fun w' => by
      have := Tryz.strings_HasPrefix s ⟨#[109, 97, 103, 110, 101, 116, 58, 63]⟩ w'
      rw [show Lib.hasPrefix s.data.toList (⟨#[109, 97, 103, 110, 101, 116, 58, 63]⟩ : ByteArray).data.toList = false from hpb] at this
      exact this
    have HPRE := Lib.hid hpre
    clear hPP hpre hpb
    go_enter Tryz.func8, Tryz.ntmps8
    go_wp2_with (go_at_call 22; refine (HPRE.out _).mono ?_; rintro e w' ⟨rfl, hw⟩; obtain rfl := hw.symm)
    obtain ⟨p0, p1, p2, hB⟩ := H8.out
    exact bodyPost_ret (results_cells3 rfl rfl rfl rfl p0 Tryz.underlying29 rfl HZB.out (run_loadVar_one p1 Tryz.underlying3 rfl) (run_loadVar_one p2 Tryz.underlying30 rfl)) rfl ⟨⟨.slice none 0 0, .slice none 0 0, .slice none 0 0, .slice none 0 0, by rw [HPP.out]; rfl, by rw [HPP.out]; exact OL.bare _ _ _⟩, hB⟩
  | true =>
  have h8 : 8 ≤ s.size := by
    have := (List.isPrefixOf_iff_prefix.1 hpb).length_le
    rw [hsl] at this; exact this
  have HP : Hid (parseS s.data.toList = (foldO (partsF (s.size + 1) (s.data.toList.drop 8) 8) bare0).out) := by
    unfold parseS; rw [if_neg (by rw [hsl]; exact h4), if_pos hpb, hsl]
    exact parseF_fold _ _ _ _ _ _ (by rw [List.length_drop, hsl]; omega)
  obtain ⟨ALL, hALL⟩ : ∃ ALL, ALL = partsF (s.size + 1) (s.data.toList.drop 8) 8 := ⟨_, rfl⟩
  have hAl : ALL.length ≤ 4090 := by
    rw [hALL]
    have := partsF_len (s.size + 1) (s.data.toList.drop 8) 8
    rw [List.length_drop, hsl] at this; omega
  rw [← hALL] at HP
  have HALL := Lib.hid hALL
  clear hALL
  refine (callsIn_wide (n := 3)).1 ?_
  refine callsIn_of_wp_marks Tryz.func8 rfl trivial ?_ rfl
  simp only [Tryz.ntmps8, List.size_toArray, List.length_cons, List.length_nil, Nat.reduceAdd, Nat.reduceSub, Array.replicate_succ, Array.replicate_zero, List.push_toArray, List.append_toArray, List.nil_append, List.cons_append]
  have hpre : ∀ m w', CallsIn Fence.wide m Tryz.prog 22 #[.string s, .string ⟨#[109, 97, 103, 110, 101, 116, 58, 63]⟩] w' fun e w'' => e = .returned (.bool true) ∧ w'' = w' := fun m w' => callsIn_wide.2 (by
    have := Tryz.strings_HasPrefix s ⟨#[109, 97, 103, 110, 101, 116, 58, 63]⟩ w'
    rw [show Lib.hasPrefix s.data.toList (⟨#[109, 97, 103, 110, 101, 116, 58, 63]⟩ : ByteArray).data.toList = true from hpb] at this
    exact this)
  have HPRE := Lib.hid hpre
  clear hpre hpb
  -- the boxes
  obtain ⟨W2, hW2⟩ : ∃ W2, (W0.alloc (.cells #[.int .i64 0] 3)).alloc (.cells #[.int .i64 0] 30) = W2 := ⟨_, rfl⟩
  obtain ⟨W3, hW3⟩ : ∃ W3, W2.alloc (.cells bareR.toArray 60) = W3 := ⟨_, rfl⟩
  have hz2 : W2.heap.size = w.heap.size + 3 := by rw [← hW2]; simp; omega
  have hz3 : W3.heap.size = w.heap.size + 4 := by rw [← hW3]; simp; omega
  have hb2 : Below W0.heap.size W0 W2 := by rw [← hW2]; exact ((Below.refl _ _).alloc (Nat.le_refl _) _).alloc (by simp) _
  have hb3 : Below W2.heap.size W2 W3 := by rw [← hW3]; exact (Below.refl _ _).alloc (Nat.le_refl _) _
  have hb4 : Below W3.heap.size W3 (W3.alloc (.cells #[.pointer (some ⟨w.heap.size + 3, 0, none⟩)] 58)) := (Below.refl _ _).alloc (Nat.le_refl _) _
  have k1 : W2.heap[w.heap.size + 1]? = some (.cells #[.int .i64 0] 3 (0, 0)) := by
    have h1 := Go.heap_alloc_new W0 (.cells #[.int .i64 0] 3)
    rw [hz0] at h1
    rw [← hW2]
    exact (Below.heap_alloc _ _ _ (by simp; omega)).trans h1
  have k2 : W2.heap[w.heap.size + 2]? = some (.cells #[.int .i64 0] 30 (0, 0)) := by
    have h1 := Go.heap_alloc_new (W0.alloc (.cells #[.int .i64 0] 3)) (.cells #[.int .i64 0] 30)
    rw [World.size_alloc, hz0] at h1
    rw [← hW2]; exact h1
  have k3 : W3.heap[w.heap.size + 3]? = some (.cells bareR.toArray 60 (0, 0)) := by
    have h1 := Go.heap_alloc_new W2 (.cells bareR.toArray 60)
    rw [hz2] at h1
    rw [← hW3]; exact h1
  have k4 := Go.heap_alloc_new W3 (.cells #[.pointer (some ⟨w.heap.size + 3, 0, none⟩)] 58)
  rw [hz3] at k4
  have hX : ∃ X, W3.alloc (.cells #[.pointer (some ⟨w.heap.size + 3, 0, none⟩)] 58) = X := ⟨_, rfl⟩
  obtain ⟨X, hX⟩ := hX
  have hzX : X.heap.size = w.heap.size + 5 := by rw [← hX]; simp; omega
  rw [hX] at hb4 k4
  have x0 : X.heap[w.heap.size]? = some (.cells Twin.zeroL 29 (0, 0)) := (hb4.block _ (by omega)).trans ((hb3.block _ (by omega)).trans ((hb2.block _ (by omega)).trans HZ.out))
  have x1 : X.heap[w.heap.size + 1]? = some (.cells #[.int .i64 0] 3 (0, 0)) := (hb4.block _ (by omega)).trans ((hb3.block _ (by omega)).trans k1)
  have x2 : X.heap[w.heap.size + 2]? = some (.cells #[.int .i64 0] 30 (0, 0)) := (hb4.block _ (by omega)).trans ((hb3.block _ (by omega)).trans k2)
  have x3 : X.heap[w.heap.size + 3]? = some (.cells bareR.toArray 60 (0, 0)) := (hb4.block _ (by omega)).trans k3
  have xb : Below w.heap.size w X := HB0.out.trans ((hb2.mono (by omega)).trans ((hb3.mono (by omega)).trans (hb4.mono (by omega))))
  have HX := Lib.hid (And.intro x0 (And.intro x1 (And.intro x2 (And.intro x3 (And.intro k4 xb)))))
  clear hb2 hb3 hb4 k1 k2 k3 k4 x0 x1 x2 x3 xb
  gi_wp2_with (refine ⟨trivial, ?_⟩; first
    | (gi_at_call 22; refine (HPRE.out _ _).mono ?_; rintro e w' ⟨rfl, hw⟩; obtain rfl := hw.symm)
    | (gi_at_call 23; refine (callsIn_wide.2 (parts s 8 _)).mono ?_; rintro e WL ⟨rfl, hpb, hpz, hps, hpo⟩; have HPB := Lib.hid hpb; have HPS := Lib.hid hps; have HPO := Lib.hid hpo; clear hpb hps hpo))
  clear HPRE hW0 hW2 hW3 hX
  have hzL : WL.heap.size = w.heap.size + 7 := by rw [hpz, hzX]
  clear hpz
  obtain ⟨x0, x1, x2, x3, x4, xb⟩ := HX.out
  have lb : ∀ q, q < w.heap.size + 5 → WL.heap[q]? = X.heap[q]? := fun q hq => HPB.out.block q (by omega)
  have l0 := (lb _ (by omega)).trans x0
  have l1 := (lb _ (by omega)).trans x1
  have l2 := (lb _ (by omega)).trans x2
  have l3 := (lb _ (by omega)).trans x3
  have l4 := (lb _ (by omega)).trans x4
  have hbL : Below w.heap.size w WL := xb.trans (HPB.out.mono (by omega))
  have l5 := HPS.out
  rw [hzX] at l5
  have l6 := HPO.out
  rw [hzX] at l6
  clear HX HPB HPS HPO x0 x1 x2 x3 x4 xb lb hzX hz0 hz2 hz3
  have hIP := ip_own w.heap.size w WL rfl hzL
  have hIX := ix_own w.heap.size w rfl
  rw [← hzL] at hIP hIX
  have hI0 : IP w.heap.size w WL [] WL := ⟨⟨Pk.bare, _, _, _, _, ⟨#[]⟩, rfl, ⟨fun h => absurd rfl h, fun _ => rfl⟩, l3, OL.bare _ _ _, fun q _ _ => rfl⟩, hbL⟩
  refine wpIn_rangeFunc_ownG rfl (by omega) (gf := 41) (lb := #[.pointer (some ⟨w.heap.size + 5 + 1, 0, none⟩), .pointer (some ⟨w.heap.size + 5, 0, none⟩)]) rfl trivial (enters_of Tryz.func41 (by kernel_rfl) rfl)
    (parts_stops 2 (by omega) (w.heap.size + 5 + 1) (w.heap.size + 5) 8 s h8 (by omega) ALL HALL.out WL (by omega) (by omega) l6 (by rw [Lib.cell_of_heap l5]; rfl)) (fun h k => kpS_t h k) (kpS_b (by omega)) (Below.refl _ _) (fun _ => rfl)
    (IP w.heap.size w WL) (IX w.heap.size w) hIP hIX hI0
    (fun x => { tmps := #[.string s, undef, .pointer (some ⟨w.heap.size, 0, none⟩), .pointer (some ⟨w.heap.size + 1, 0, none⟩), .pointer (some ⟨w.heap.size + 1 + 1, 0, none⟩), .pointer (some ⟨w.heap.size + 4, 0, none⟩), .int .i64 (x.of.1 : Int), .string x.of.2, undef, undef, .bool false, .string s, .int .i64 (s.size : Int), .bool false, undef, .bool false, .string s, .bool true, .bool false, undef, .agg bareR.toArray, .pointer (some ⟨w.heap.size + 3, 0, none⟩), .string s,
          .func (.func 41) #[] #[.pointer (some ⟨w.heap.size + 5 + 1, 0, none⟩), .pointer (some ⟨w.heap.size + 5, 0, none⟩)], .int .i64 (x.of.1 : Int), .string x.of.2, undef, undef, undef, undef, undef, undef, undef, undef, undef, undef, undef, undef, undef, undef, undef, undef, undef], defers := [] }) ?assign ?body ?done ?stop
  case assign =>
    intro l x W K hK
    unfold encP
    gi_wp2
    exact hK
  case body =>
    rintro l pre x W ⟨⟨P, tv, pv, ov, mv, last, h1, h2, h3, h4, h5⟩, hB⟩ hlen
    have hxo := x.2.1
    have hxs := x.2.2
    have hxo' : x.of.1 ≤ 4096 := hxo
    have hxs' : x.of.2.size ≤ 4096 := hxs
    have hbW := h3.lt
    have hBs := hB.size
    have b0 := (h5 w.heap.size (by omega) (by omega)).trans l0
    have b1 := (h5 (w.heap.size + 1) (by omega) (by omega)).trans l1
    have b2 := (h5 (w.heap.size + 2) (by omega) (by omega)).trans l2
    have b4 := (h5 (w.heap.size + 4) (by omega) (by omega)).trans l4
    have hzW : w.heap.size + 7 ≤ W.heap.size := by
      have : (W.heap[w.heap.size + 6]?).isSome = true := by
        rw [h5 _ (by omega) (by omega), Array.getElem?_eq_getElem (by omega)]; rfl
      rcases Nat.lt_or_ge (w.heap.size + 6) W.heap.size with h | h
      · omega
      · rw [Array.getElem?_eq_none h] at this; cases this
    have ht := take P tv pv ov mv pre.length last x.of.2 (w.heap.size + 7) pre.length (w.heap.size + 3) w W hG hB (by omega) hzW h3 h4 (by omega) (by omega) (by omega) (by omega) h2
    have hof := stepP_off P pre.length last x.of.2.data.toList
    obtain ⟨S, hS⟩ : ∃ S, stepP P pre.length last x.of.2.data.toList = S := ⟨_, rfl⟩
    have hl1 : x.of.2.data.toList.length = x.of.2.size := by simp
    have ht' : Calls Tryz.prog 24 #[.pointer (some ⟨w.heap.size + 3, 0, none⟩), .string x.of.2] W fun e w' => ∃ (Q : Pk) (tv' pv' ov' mv' : Value) (n' : Nat) (last' : ByteArray), e = .returned (.tuple #[.int .i64 S.2.2.1, .int .i64 S.2.2.2]) ∧ Rd w' (w.heap.size + 3) Q tv' pv' ov' mv' n' last' ∧ OL w' (w.heap.size + 7) (pre.length + 1) Q tv' pv' ov' mv' ∧
        (S.2.2.2 = 0 → Q = S.1 ∧ n' = pre.length + 1 ∧ last' = S.2.1) ∧ Below w.heap.size W w' ∧ KeptR (w.heap.size + 7) (w.heap.size + 3) W w' := by
      refine ht.mono fun e w' h => ?_
      unfold TakePost at h
      rw [hS] at h
      exact h
    rw [hS] at hof
    have hinv : S.2.2.2 = 0 → Inv S.1 (pre.length + 1) S.2.1 := fun h => by
      rw [← hS] at h ⊢; exact inv_step h2 h
    have hfold : foldO (ofs (pre ++ [x])) bare0 = if S.2.2.2 ≠ 0 then ⟨P, pre.length, last, some ((x.of.1 : Int) + S.2.2.1, S.2.2.2)⟩ else ⟨S.1, pre.length + 1, S.2.1, none⟩ := by
      rw [ofs_snoc, foldO_snoc, h1]; unfold stepO; rw [hS]
    obtain ⟨Q1, key, off, E⟩ := S
    simp only at hof ht' hinv hfold
    have c4 := run_load66 b4
    have hoff : off ≤ 4097 := by omega
    have hoff0 : 0 ≤ off := hof.1
    have hxi : (0 : Int) ≤ (x.of.1 : Int) := by omega
    have hxj : (x.of.1 : Int) ≤ 4096 := by omega
    have HT := Lib.hid ht'
    have HFO := Lib.hid hfold
    have HIN := Lib.hid hinv
    have HB := Lib.hid hB
    have H5 := Lib.hid h5
    have HB0 := Lib.hid b0
    have HB1 := Lib.hid b1
    have HB2 := Lib.hid b2
    have HIPn : Hid (WL.heap.size = w.heap.size + 7) := hzL
    clear ht ht' hfold hinv hS h1 h2 h3 h4 h5 hB b0 b1 b2 b4 hIP hIX hI0 l0 l1 l2 l3 l4 l5 l6 hof hl1 hzL hsl
    by_cases hE0 : E = 0
    · subst hE0
      gi_wp2_with (refine ⟨trivial, ?_⟩; gi_at_call 24; (with_reducible refine (CallsIn.inRound l (callsIn_wide.2 HT.out)).mono ?_); rintro e W2 ⟨Q, t', p', o', m', n', last', rfl, r1, r2, r3, r4, r5⟩; have R1 := Lib.hid r1; have R2 := Lib.hid r2; have R3 := Lib.hid r3; have R4 := Lib.hid r4; have R5 := Lib.hid r5; clear r1 r2 r3 r4 r5)
      obtain ⟨rfl, rfl, rfl⟩ := R3.out (by first | exact trivial | rfl)
      have hf := HFO.out
      rw [if_neg (by simp)] at hf
      have hlp : (pre ++ [x]).length = pre.length + 1 := by simp
      refine ⟨keepsFrom_R R5.out, R5.out.2.1 _ (by omega) (by omega), ⟨_, t', p', o', m', _, by rw [hf, hlp], by rw [hlp]; exact HIN.out (by first | exact trivial | rfl), by rw [hlp]; exact R1.out, by rw [hlp]; exact R2.out, fun q hq hne => (R5.out.2.1 q hq hne).trans (H5.out q hq hne)⟩, HB.out.trans R4.out⟩
    · have hE0' : (E == 0) = false := by simpa using hE0
      have bad : ∀ W2 : World, KeptR (w.heap.size + 7) (w.heap.size + 3) W W2 → Below w.heap.size W W2 → ∃ W6, (storeCells ⟨w.heap.size, 0, none⟩ bareC).run Tryz.prog W2 = .ok () W6 ∧ W6.cell? ⟨w.heap.size + 1, 0, none⟩ = some (.int .i64 0) ∧ W6.frozen? ⟨w.heap.size + 1, 0, none⟩ = false ∧
          ∃ W7, W6.setCell ⟨w.heap.size + 1, 0, none⟩ (.int .i64 ((x.of.1 : Int) + off)) = W7 ∧ W7.cell? ⟨w.heap.size + 1 + 1, 0, none⟩ = some (.int .i64 0) ∧ W7.frozen? ⟨w.heap.size + 1 + 1, 0, none⟩ = false ∧
          ∃ W8, W7.setCell ⟨w.heap.size + 1 + 1, 0, none⟩ (.int .i64 E) = W8 ∧ Hid (KeepsFrom WL.heap.size W W8 ∧ IX w.heap.size w .ret (pre ++ [x]) W8) := by
        intro W2 hk hb
        have c0 := (hk.2.1 w.heap.size (by omega) (by omega)).trans HB0.out
        have c1 := (hk.2.1 (w.heap.size + 1) (by omega) (by omega)).trans HB1.out
        have c2 := (hk.2.1 (w.heap.size + 2) (by omega) (by omega)).trans HB2.out
        have hsz := hk.1
        obtain ⟨W6, hW6⟩ : ∃ W6, W2.setRow w.heap.size bareC.toArray = W6 := ⟨_, rfl⟩
        have hs := (OL.bare W2 (w.heap.size + 7) 0).store W2 w.heap.size _ rfl c0
        have g6 : W2.grownBy W6 (some w.heap.size) := hW6 ▸ grown_setRow _ _ _
        have d0 : W6.heap[w.heap.size]? = some (.cells bareC.toArray 29 (0, 0)) := by rw [← hW6]; exact setRow_heap _ _ _ _ _ _ c0
        have d1 := (g6.block _ (by omega) (by intro e; injection e with e; omega)).trans c1
        have d2 := (g6.block _ (by omega) (by intro e; injection e with e; omega)).trans c2
        have hs6 := g6.size
        obtain ⟨W7, hW7⟩ : ∃ W7, W6.setCell ⟨w.heap.size + 1, 0, none⟩ (.int .i64 ((x.of.1 : Int) + off)) = W7 := ⟨_, rfl⟩
        have g7 : W6.grownBy W7 (some (w.heap.size + 1)) := hW7 ▸ grown_setCell _ _ _ _
        have e0 := (g7.block _ (by omega) (by intro e; injection e with e; omega)).trans d0
        have e1 : W7.heap[w.heap.size + 1]? = some (.cells #[.int .i64 ((x.of.1 : Int) + off)] 3 (0, 0)) := by rw [← hW7, heap_setCell_same _ _ _ _ _ _ d1]; rfl
        have e2 := (g7.block _ (by omega) (by intro e; injection e with e; omega)).trans d2
        have hs7 := g7.size
        obtain ⟨W8, hW8⟩ : ∃ W8, W7.setCell ⟨w.heap.size + 1 + 1, 0, none⟩ (.int .i64 E) = W8 := ⟨_, rfl⟩
        have g8 : W7.grownBy W8 (some (w.heap.size + 1 + 1)) := hW8 ▸ grown_setCell _ _ _ _
        have f0 := (g8.block _ (by omega) (by intro e; injection e with e; omega)).trans e0
        have f1 := (g8.block _ (by omega) (by intro e; injection e with e; omega)).trans e1
        have f2 : W8.heap[w.heap.size + 2]? = some (.cells #[.int .i64 E] 30 (0, 0)) := by rw [← hW8, heap_setCell_same _ _ _ _ _ _ e2]; rfl
        have hf := HFO.out
        rw [if_pos hE0] at hf
        refine ⟨W6, by rw [← hW6]; exact hs, by rw [Lib.cell_of_heap d1]; rfl, Lib.frozen_of_heap d1 0, W7, hW7, by rw [Lib.cell_of_heap e2]; rfl, Lib.frozen_of_heap e2 0, W8, hW8, ?_, ⟨rfl, P, pre.length, last, _, _, hf, f0, f1, f2⟩, ?_⟩
        · have hz := HIPn.out
          refine (keepsFrom_R hk).trans (((KeepsFrom.of_grownBy g6 ?_).trans (KeepsFrom.of_grownBy g7 ?_)).trans (KeepsFrom.of_grownBy g8 ?_))
          all_goals (intro j e; cases e; omega)
        · exact Below.turn (Below.turn (Below.turn (HB.out.trans hb) g6 (Nat.le_refl _) (by omega)) g7 (by omega) (by omega)) g8 (by omega) (by omega)
      have BAD := Lib.hid bad
      clear bad
      gi_wp2_with (refine ⟨trivial, ?_⟩; gi_at_call 24; (with_reducible refine (CallsIn.inRound l (callsIn_wide.2 HT.out)).mono ?_); rintro e W2 ⟨Q, t', p', o', m', n', last', rfl, r1, r2, r3, r4, r5⟩; obtain ⟨W6, hs6, c6, f6, W7, hW7, c7, f7, W8, hW8, H8⟩ := BAD.out W2 r5 r4; clear r1 r2 r3 r4 r5)
      exact H8.out
  case done =>
    rintro D ys W hD hys ⟨⟨P, tv, pv, ov, mv, last, h1, h2, h3, h4, h5⟩, hB⟩ hK
    have hPP : Hid (parseS s.data.toList = (P, 0, 0)) := by
      rw [HP.out, ← hys, h1]; rfl
    have hyl : ys.length ≤ 4090 := by rw [← ofs_len, hys]; exact hAl
    have b0 := (h5 w.heap.size (by omega) (by omega)).trans l0
    have b1 := (h5 (w.heap.size + 1) (by omega) (by omega)).trans l1
    have b2 := (h5 (w.heap.size + 2) (by omega) (by omega)).trans l2
    have b4 := (h5 (w.heap.size + 4) (by omega) (by omega)).trans l4
    have hz4 : w.heap.size + 4 < W.heap.size := (Array.getElem?_eq_some_iff.1 b4).1
    have hl5 := run_load66 b4
    have hld := run_loadAt_mid W (w.heap.size + 3) 0 29 (lcells P.lk tv pv ov mv) _ (fun j v hv => by
      have hj : j < 37 := by
        have := (List.getElem?_eq_some_iff.1 hv).1
        rw [lcells_length (X := P.lk) h4.info] at this; exact this
      rw [Nat.zero_add, h3.old h4.info j hj]; exact hv) Tryz.underlying29 rfl (by rw [lcells_length (X := P.lk) h4.info]; exact Twin.sizeL)
    have hs8 := h4.store W w.heap.size _ rfl b0
    obtain ⟨W8, hW8⟩ : ∃ W8, W.setRow w.heap.size (lcells P.lk tv pv ov mv).toArray = W8 := ⟨_, rfl⟩
    have g8 : W.grownBy W8 (some w.heap.size) := hW8 ▸ grown_setRow _ _ _
    have d0 : W8.heap[w.heap.size]? = some (.cells (lcells P.lk tv pv ov mv).toArray 29 (0, 0)) := by rw [← hW8]; exact setRow_heap _ _ _ _ _ _ b0
    have d1 := (g8.block _ (by omega) (by intro e; injection e with e; omega)).trans b1
    have d2 := (g8.block _ (by omega) (by intro e; injection e with e; omega)).trans b2
    have dK := (g8.block D (by have := (Array.getElem?_eq_some_iff.1 hK).1; omega) (by intro e; injection e with e; omega)).trans hK
    have hz8 := g8.size
    rw [hW8] at hs8
    obtain ⟨W9, hW9⟩ : ∃ W9, W8.setCell ⟨w.heap.size + 1, 0, none⟩ (.int .i64 0) = W9 := ⟨_, rfl⟩
    have g9 : W8.grownBy W9 (some (w.heap.size + 1)) := hW9 ▸ grown_setCell _ _ _ _
    have e0 := (g9.block _ (by omega) (by intro e; injection e with e; omega)).trans d0
    have e1 : W9.heap[w.heap.size + 1]? = some (.cells #[.int .i64 0] 3 (0, 0)) := by rw [← hW9, heap_setCell_same _ _ _ _ _ _ d1]; rfl
    have e2 := (g9.block _ (by omega) (by intro e; injection e with e; omega)).trans d2
    have eK := (g9.block D (by have := (Array.getElem?_eq_some_iff.1 dK).1; omega) (by intro e; injection e with e; omega)).trans dK
    have hz9 := g9.size
    obtain ⟨W10, hW10⟩ : ∃ W10, W9.setCell ⟨w.heap.size + 1 + 1, 0, none⟩ (.int .i64 0) = W10 := ⟨_, rfl⟩
    have g10 : W9.grownBy W10 (some (w.heap.size + 1 + 1)) := hW10 ▸ grown_setCell _ _ _ _
    have f0 := (g10.block _ (by omega) (by intro e; injection e with e; omega)).trans e0
    have f1 := (g10.block _ (by omega) (by intro e; injection e with e; omega)).trans e1
    have f2 : W10.heap[w.heap.size + 2]? = some (.cells #[.int .i64 0] 30 (0, 0)) := by rw [← hW10, heap_setCell_same _ _ _ _ _ _ e2]; rfl
    have fK := (g10.block D (by have := (Array.getElem?_eq_some_iff.1 eK).1; omega) (by intro e; injection e with e; omega)).trans eK
    have hO : OL W10 w.heap.size 5000 P tv pv ov mv := ((((h4.more (M := 5000) (by omega)).base (by omega)).turn g8 b0 (by decide) (by decide) (by decide)).turn g9 d1 (by decide) (by decide) (by decide)).turn g10 e2 (by decide) (by decide) (by decide)
    have hBB : Below w.heap.size w W10 := Below.turn (Below.turn (Below.turn hB g8 (Nat.le_refl _) (by omega)) g9 (by omega) (by omega)) g10 (by omega) (by omega)
    have gD := grownBy_putObj' W10 D (.deferred none)
    have hD7 : w.heap.size + 7 ≤ D := by omega
    have p0 := (gD.block _ (by have := (Array.getElem?_eq_some_iff.1 f0).1; omega) (by intro e; injection e with e; omega)).trans f0
    have p1 := (gD.block _ (by have := (Array.getElem?_eq_some_iff.1 f1).1; omega) (by intro e; injection e with e; omega)).trans f1
    have p2 := (gD.block _ (by have := (Array.getElem?_eq_some_iff.1 f2).1; omega) (by intro e; injection e with e; omega)).trans f2
    have hO2 := hO.off gD (fun r e => by cases e; exact ⟨_, fK, rfl⟩)
    have hB2 : Below w.heap.size w (W10.putObj D (.deferred none)) := hBB.grown gD hBB.size (fun k e => by cases e; omega)
    have hz := sizeLQ (X := P.lk) h4.info tv pv ov mv
    have c1 : W8.cell? ⟨w.heap.size + 1, 0, none⟩ = some (.int .i64 0) := by rw [Lib.cell_of_heap d1]; rfl
    have f1' := Lib.frozen_of_heap d1 0
    have c2 : W9.cell? ⟨w.heap.size + 1 + 1, 0, none⟩ = some (.int .i64 0) := by rw [Lib.cell_of_heap e2]; rfl
    have f2' : W9.frozen? ⟨w.heap.size + 1 + 1, 0, none⟩ = false := Lib.frozen_of_heap e2 0
    have hll : (lcells P.lk tv pv ov mv).length = 37 := lcells_length (X := P.lk) h4.info _ _ _ _
    have FIN := Lib.hid (And.intro fK (And.intro p0 (And.intro p1 (And.intro p2 (And.intro hO2 (And.intro hB2 hz))))))
    clear fK p0 p1 p2 hO2 hB2 hz hO hBB f0 f1 f2 eK e0 e1 e2 dK d0 d1 d2 hIP hIX hI0 l0 l1 l2 l3 l4 l5 l6 b0 b1 b2 b4 h1 h2 h3 h4 h5 hB hK hys HP g8 g9 g10 gD hW8 hzL
    gi_wp2
    refine ⟨by simp, .inl ⟨_, _, rfl, run_takeDeferred FIN.out.1, ?_⟩⟩
    obtain ⟨_, p0, p1, p2, hO2, hB2, hz⟩ := FIN.out
    exact ⟨_, results_cells3 rfl rfl rfl rfl p0 Tryz.underlying29 rfl hz (run_loadVar_one p1 Tryz.underlying3 rfl) (run_loadVar_one p2 Tryz.underlying30 rfl), ⟨_, _, _, _, by rw [hPP.out], by rw [hPP.out]; exact hO2⟩, hB2⟩
  case stop =>
    rintro D c pre W hD hpre ⟨⟨rfl, P, n, last, a, e, h1, h2, h3, h4⟩, hB⟩ hK
    have hPP : Hid (parseS s.data.toList = (Pk.bare, a, e)) := by
      obtain ⟨r, hr⟩ := hpre
      rw [HP.out, ← hr, foldO_append, h1, foldO_bad _ _ _ rfl]; rfl
    have gD := grownBy_putObj' W D (.deferred none)
    have hD7 : w.heap.size + 7 ≤ D := by omega
    have p0 := (gD.block _ (by have := (Array.getElem?_eq_some_iff.1 h2).1; omega) (by intro e; injection e with e; omega)).trans h2
    have p1 := (gD.block _ (by have := (Array.getElem?_eq_some_iff.1 h3).1; omega) (by intro e; injection e with e; omega)).trans h3
    have p2 := (gD.block _ (by have := (Array.getElem?_eq_some_iff.1 h4).1; omega) (by intro e; injection e with e; omega)).trans h4
    have hB2 : Below w.heap.size w (W.putObj D (.deferred none)) := hB.grown gD hB.size (fun k e => by cases e; omega)
    have hz : (Tryz.prog.info? 29).map (·.size) = some bareC.toArray.size := sizeLQ (X := Pk.bare.lk) rfl _ _ _ _
    have FIN := Lib.hid (And.intro hK (And.intro p0 (And.intro p1 (And.intro p2 (And.intro hB2 hz)))))
    clear p0 p1 p2 hB2 hz h1 h2 h3 h4 hB hK hpre gD hIP hIX hI0 l0 l1 l2 l3 l4 l5 l6 HP hzL
    gi_wp2
    refine ⟨by simp, .inl ⟨_, _, rfl, run_takeDeferred FIN.out.1, ?_⟩⟩
    obtain ⟨_, p0, p1, p2, hB2, hz⟩ := FIN.out
    exact ⟨_, results_cells3 rfl rfl rfl rfl p0 Tryz.underlying29 rfl hz (run_loadVar_one p1 Tryz.underlying3 rfl) (run_loadVar_one p2 Tryz.underlying30 rfl), ⟨.slice none 0 0, .slice none 0 0, .slice none 0 0, .slice none 0 0, by rw [hPP.out]; rfl, by rw [hPP.out]; exact OL.bare _ _ _⟩, hB2⟩

end Go.Proofs.YtdfiblaboddbjaaGreatDoor.Prs
