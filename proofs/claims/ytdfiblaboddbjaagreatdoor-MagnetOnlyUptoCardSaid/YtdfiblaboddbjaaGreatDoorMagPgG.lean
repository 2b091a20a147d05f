/-
  The program's hold, a key of another kind.
-/
import Derived.Test.YtdfiblaboddbjaaGreatDoorMagPgH
import Derived.Deep.RegionLaw
namespace Go.Proofs.YtdfiblaboddbjaaGreatDoor.Prs
open Go.RowKit Go.Proofs.YtdfiblaboddbjaaGreatDoor.Base Go.Proofs.YtdfiblaboddbjaaGreatDoor.Rep Go.Proofs.YtdfiblaboddbjaaGreatDoor.Mag Go.Proofs.YtdfiblaboddbjaaGreatDoor.Has
set_option linter.unusedVariables false
set_option linter.unusedSimpArgs false

def zpair : List Value := [.string ⟨#[]⟩, .int .i64 0, .int .i64 0, .string ⟨#[]⟩, .slice none 0 0, .slice none 0 0]
def vpair (key value : ByteArray) : List Value := [.string key, .int .i64 2, .int .i64 0, .string value, .slice none 0 0, .slice none 0 0]
theorem sizeP : (Tryz.prog.info? 51).map (·.size) = some 6 := by kernel_rfl
theorem sizeM : (Tryz.prog.info? 27).map (·.size) = some 1 := by kernel_rfl

theorem rows6_len (l : List (ByteArray × ByteArray)) : (rows6 l).length = l.length * 6 := flat_length _ 6 (fun _ => rfl) _

/-- The pair stored over the nil pair. -/
theorem own_pair {w : World} {B g cap : Nat} {l : List (ByteArray × ByteArray)} {key value : ByteArray} (h : w.ownsRow B 51 6 (.slice (some ⟨g, 0, none⟩) (l.length + 1) cap) (l.length + 1) (rows6 l ++ zpair)) :
    w.there g (l.length * 6) 6 ∧ (w.setCells g (l.length * 6) (vpair key value)).ownsRow B 51 6 (.slice (some ⟨g, 0, none⟩) (l.length + 1) cap) (l.length + 1) (rows6 l ++ vpair key value) ∧ w.grownBy (w.setCells g (l.length * 6) (vpair key value)) (some g) := by
  have hl := rows6_len l
  have hlen : (rows6 l ++ zpair).length = (l.length + 1) * 6 := by rw [List.length_append, hl]; simp [zpair]; omega
  refine ⟨fun j hj => ⟨?_, h.frozenAt _⟩, ?_⟩
  · obtain ⟨_, h2⟩ := h
    rcases h2 with ⟨h', _⟩ | ⟨g', cap', cur, h', hb, hg, hnc, hcm, hcs, htake⟩
    · cases h'
    · injection h' with h1 _ _
      injection h1 with h1
      injection h1 with h1 _ _
      subst h1
      rw [Lib.cell_of_heap hg]
      have : l.length * 6 + j < cur.size := by
        have h3 := congrArg List.length htake
        rw [List.length_take, hlen] at h3
        simp at h3
        omega
      simp [this]
  · obtain ⟨a0, b0⟩ := h.stored (l.length * 6) (.string key)
    obtain ⟨a1, b1⟩ := a0.stored (l.length * 6 + 1) (.int .i64 2)
    obtain ⟨a2, b2⟩ := a1.stored (l.length * 6 + 1 + 1) (.int .i64 0)
    obtain ⟨a3, b3⟩ := a2.stored (l.length * 6 + 1 + 1 + 1) (.string value)
    obtain ⟨a4, b4⟩ := a3.stored (l.length * 6 + 1 + 1 + 1 + 1) (.slice none 0 0)
    obtain ⟨a5, b5⟩ := a4.stored (l.length * 6 + 1 + 1 + 1 + 1 + 1) (.slice none 0 0)
    have tr : ∀ {w1 w2 w3 : World}, w1.grownBy w2 (some g) → w2.grownBy w3 (some g) → w1.grownBy w3 (some g) := fun p q => ⟨q.os.trans p.os, q.tape.trans p.tape, q.output.trans p.output, Nat.le_trans p.size q.size, fun k hk hn => (q.block k (Nat.lt_of_lt_of_le hk p.size) hn).trans (p.block k hk hn)⟩
    refine ⟨?_, tr (tr (tr (tr (tr b0 b1) b2) b3) b4) b5⟩
    have e : ((((((rows6 l ++ zpair).set (l.length * 6) (.string key)).set (l.length * 6 + 1) (.int .i64 2)).set (l.length * 6 + 1 + 1) (.int .i64 0)).set (l.length * 6 + 1 + 1 + 1) (.string value)).set (l.length * 6 + 1 + 1 + 1 + 1) (.slice none 0 0)).set (l.length * 6 + 1 + 1 + 1 + 1 + 1) (.slice none 0 0) = rows6 l ++ vpair key value := by
      rw [← hl]
      simp [List.set_append, zpair, vpair, Nat.add_assoc]
    rw [e] at a5
    exact a5

theorem run_store1 (w : World) (b j : Nat) (a : Option Addr) (n c : Nat) (old : Value) (hc : w.cell? ⟨b, j, none⟩ = some old) (hf : w.frozen? ⟨b, j, none⟩ = false) :
    (Instr.storeAt 27 (.pointer (some ⟨b, j, none⟩)) (.slice a n c)).run Tryz.prog w = .ok () (w.setCell ⟨b, j, none⟩ (.slice a n c)) := by
  have hi := sizeM
  have hst : (store ⟨b, j, none⟩ (.slice a n c)).run Tryz.prog w = .ok () (w.setCell ⟨b, j, none⟩ (.slice a n c)) := by
    rw [run_store Tryz.prog w _ _ _ rfl, hc]; simp [hf]
  cases hq : Tryz.prog.info? 27 with
  | none => simp [hq] at hi
  | some i =>
    have hs : i.size = 1 := by simpa [hq] using hi
    simp [Instr.storeAt, Instr.sureAddr, storeVar, sizeOf, typeInfo, hq, Value.cells, hs, storeCells, Addr.add, hst]

/-- Behind the append: the two stores, in both orders. -/
structure Two (w w3 : World) (A B N b : Nat) (P : Pk) (tv pv ov mv : Value) (n : Nat) (last key value : ByteArray) (g cap : Nat) : Prop where
  c36 : w3.cell? ⟨b, 36, none⟩ = some mv
  go : ∃ W4 W5 V4 V5 : World, (Instr.storeAt 51 (.pointer (some ⟨g, P.more.length * 6, none⟩)) (.agg (vpair key value).toArray)).run Tryz.prog w3 = .ok () W4 ∧
    (Instr.storeAt 27 (.pointer (some ⟨b, 36, none⟩)) (.slice (some ⟨g, 0, none⟩) (P.more.length + 1) cap)).run Tryz.prog W4 = .ok () W5 ∧
    (Instr.storeAt 27 (.pointer (some ⟨b, 36, none⟩)) (.slice (some ⟨g, 0, none⟩) (P.more.length + 1) cap)).run Tryz.prog w3 = .ok () V4 ∧
    (Instr.storeAt 51 (.pointer (some ⟨g, P.more.length * 6, none⟩)) (.agg (vpair key value).toArray)).run Tryz.prog V4 = .ok () V5 ∧
    Hid (∀ W, W = W5 ∨ W = V5 → Rd W b { P with more := P.more ++ [(key, value)] } tv pv ov (.slice (some ⟨g, 0, none⟩) (P.more.length + 1) cap) n last ∧ OL W B (N + 1) { P with more := P.more ++ [(key, value)] } tv pv ov (.slice (some ⟨g, 0, none⟩) (P.more.length + 1) cap) ∧ Below A w W ∧ KeptR B b w W)

set_option maxRecDepth 100000 in
set_option maxHeartbeats 1000000 in
theorem two {w w3 : World} {A B N b : Nat} {P : Pk} {tv pv ov mv : Value} {n : Nat} {last key value : ByteArray} {g cap : Nat} {o : Obj} (hb : A ≤ b) (hAB : A ≤ B) (hBw : B ≤ w.heap.size) (hR : Rd w b P tv pv ov mv n last) (hO : OL w B N P tv pv ov mv) (hks : key.size ≤ 1000000) (hvs : value.size ≤ 1000000)
    (ho : w3.ownsRow B 51 6 (.slice (some ⟨g, 0, none⟩) (P.more.length + 1) cap) (P.more.length + 1) (rows6 P.more ++ zpair)) (hg : (w.alloc o).grownBy w3 mv.ownBlock) : Two w w3 A B N b P tv pv ov mv n last key value g cap := by
  have hi : P.info.length = 32 := hO.info
  have hb2 : Below w.heap.size w (w.alloc o) := (Below.refl _ _).alloc (Nat.le_refl _) _
  have hk3 : KeptT w w3 := (KeptT.of_below hb2).trans (KeptT.grown (hO.mo.alloc _) hg (Or.inr (Or.inr rfl)))
  have hR3 : Rd w3 b P tv pv ov mv n last := hk3.2 _ _ _ _ (by decide) (by decide) (by decide) hR
  have hB3 : Below A w w3 := (Below.alloc (Below.refl A w) (by omega) o).grown hg (by simp; omega) (fun k hk => Nat.le_trans hAB (hO.mo.lt k hk).1)
  have hK3 : KeptR B b w w3 := (KeptR.of_below hb2 hBw).trans (KeptR.of_grown (hO.mo.alloc o) (by simp; omega) hg)
  have hz3 := hK3.1
  obtain ⟨t1, o1, g1⟩ := own_pair (key := key) (value := value) ho
  have hgb : g ≠ b := by
    intro e
    subst e
    rcases ho.2 with ⟨h', _⟩ | ⟨g', cap', cur, h', _, hgx, _⟩
    · cases h'
    · injection h' with h1 _ _
      injection h1 with h1
      injection h1 with h1 _ _
      subst h1
      rw [hR3] at hgx
      injection hgx with h1
      injection h1 with _ h1
      exact absurd h1 (by decide)
  -- the pair, then the link's cell
  obtain ⟨W4, hW4⟩ : ∃ W4, w3.setCells g (P.more.length * 6) (vpair key value) = W4 := ⟨_, rfl⟩
  rw [hW4] at o1 g1
  have hglt : g < w3.heap.size := by
    have := (hO.mo.lt)
    rcases ho.lt g rfl with ⟨_, h⟩
    exact h
  have hBg : B ≤ g := (ho.lt g rfl).1
  have hs1 : (Instr.storeAt 51 (.pointer (some ⟨g, P.more.length * 6, none⟩)) (.agg (vpair key value).toArray)).run Tryz.prog w3 = .ok () W4 := by
    rw [← hW4]; exact run_storeAt_mid w3 g (P.more.length * 6) _ (vpair key value).toArray t1 (by rw [sizeP]; rfl) (by simp [vpair, Value.oneCell'])
  have hR4 : Rd W4 b P tv pv ov mv n last := (g1.block b hR3.lt (fun e => hgb (by injection e with e; exact e.symm))).trans hR3
  have hs2 := run_store1 W4 b 36 (some ⟨g, 0, none⟩) (P.more.length + 1) cap mv (hR4.c36 hi) (hR4.frozen 36)
  have hR5 := hR4.set36 hi (.slice (some ⟨g, 0, none⟩) (P.more.length + 1) cap) (P.more ++ [(key, value)])
  have g2 := grown_setCell W4 b 36 (.slice (some ⟨g, 0, none⟩) (P.more.length + 1) cap)
  -- the link's cell, then the pair
  have hs3 := run_store1 w3 b 36 (some ⟨g, 0, none⟩) (P.more.length + 1) cap mv (hR3.c36 hi) (hR3.frozen 36)
  have g3 := grown_setCell w3 b 36 (.slice (some ⟨g, 0, none⟩) (P.more.length + 1) cap)
  have hR6 := hR3.set36 hi (.slice (some ⟨g, 0, none⟩) (P.more.length + 1) cap) (P.more ++ [(key, value)])
  obtain ⟨V4, hV4⟩ : ∃ V4, w3.setCell ⟨b, 36, none⟩ (.slice (some ⟨g, 0, none⟩) (P.more.length + 1) cap) = V4 := ⟨_, rfl⟩
  rw [hV4] at hs3 g3 hR6
  have ho4 := own_turn ho g3 hR3 (by decide)
  obtain ⟨t5, o5, g5⟩ := own_pair (key := key) (value := value) ho4
  obtain ⟨V5, hV5⟩ : ∃ V5, V4.setCells g (P.more.length * 6) (vpair key value) = V5 := ⟨_, rfl⟩
  have hs4 : (Instr.storeAt 51 (.pointer (some ⟨g, P.more.length * 6, none⟩)) (.agg (vpair key value).toArray)).run Tryz.prog V4 = .ok () V5 := by
    rw [← hV5]; exact run_storeAt_mid V4 g (P.more.length * 6) _ (vpair key value).toArray t5 (by rw [sizeP]; rfl) (by simp [vpair, Value.oneCell'])
  rw [hV5] at o5 g5
  obtain ⟨W5, hW5⟩ : ∃ W5, W4.setCell ⟨b, 36, none⟩ (.slice (some ⟨g, 0, none⟩) (P.more.length + 1) cap) = W5 := ⟨_, rfl⟩
  rw [hW5] at hs2 g2 hR5
  -- what is kept
  have hOw : OL w3 B (N + 1) { P with more := P.more ++ [(⟨#[]⟩, ⟨#[]⟩)] } tv pv ov (.slice (some ⟨g, 0, none⟩) (P.more.length + 1) cap) → True := fun _ => trivial
  have a1 := (hO.tr.alloc o).kept hg (own_apart hO.tr hO.mo (by decide))
  have a2 := (hO.pe.alloc o).kept hg (own_apart hO.pe hO.mo (by decide))
  have a3 := (hO.on.alloc o).kept hg (own_apart hO.on hO.mo (by decide))
  have mk : ∀ W, W.ownsRow B 9 1 tv P.trackers.length (rows1 P.trackers) → W.ownsRow B 9 1 pv P.peers.length (rows1 P.peers) → W.ownsRow B 43 2 ov P.only.length (rows2 P.only) →
      W.ownsRow B 51 6 (.slice (some ⟨g, 0, none⟩) (P.more.length + 1) cap) (P.more.length + 1) (rows6 P.more ++ vpair key value) → OL W B (N + 1) { P with more := P.more ++ [(key, value)] } tv pv ov (.slice (some ⟨g, 0, none⟩) (P.more.length + 1) cap) := by
    intro W h1 h2 h3 h4
    refine ⟨hO.info, hO.name, h1, h2, h3, ?_, hO.tp, ⟨by have := hO.cnt.1; show P.trackers.length ≤ N + 1; omega, by have := hO.cnt.2.1; show P.peers.length ≤ N + 1; omega, by simpa using hO.cnt.2.2.1, hO.cnt.2.2.2⟩, hO.trs, hO.pes, fun x hx => ?_, hO.who⟩
    · show W.ownsRow B _ 6 _ (P.more ++ [(key, value)]).length (rows6 (P.more ++ [(key, value)]))
      rw [rows6_snoc, List.length_append]; exact h4
    · rcases List.mem_append.1 hx with hx | hx
      · exact hO.mos x hx
      · rw [List.mem_singleton.1 hx]; exact ⟨by show key.size ≤ _; omega, by show value.size ≤ _; omega⟩
  have apS : ∀ {v : Value} {e s k : Nat} {xs : List Value} {W : World}, W.ownsRow B e s v k xs → W.ownsRow B 51 6 (.slice (some ⟨g, 0, none⟩) (P.more.length + 1) cap) (P.more.length + 1) (rows6 P.more ++ zpair) → e ≠ 51 → v.ownBlock = none ∨ v.ownBlock ≠ some g := fun h h' he => own_apart h h' he
  have hB4 : Below A w W4 := Below.turn hB3 g1 (by omega) (by have := hB3.size; omega)
  have hk4 : KeptT w3 W4 := ⟨g1.size, fun q cs T fr x1 x2 x3 x4 => by
    rw [g1.block q (Array.getElem?_eq_some_iff.1 x4).1 ?_]
    · exact x4
    · intro e
      injection e with e
      subst e
      rcases ho.2 with ⟨h', _⟩ | ⟨g', cap', cur, h', _, hgx, _⟩
      · cases h'
      · injection h' with h1 _ _
        injection h1 with h1
        injection h1 with h1 _ _
        subst h1
        rw [x4] at hgx
        injection hgx with h1
        injection h1 with _ h1
        exact x3 h1⟩
  have hB5 : Below A w W5 := Below.turn hB4 g2 hb (by have := hB4.size; omega)
  have hz4 := g1.size
  have hK5 : KeptR B b w W5 := (hK3.trans (KeptR.of_grown ho (by omega) g1)).trans (KeptR.set hR4 (by omega) g2)
  have hB6 : Below A w V4 := Below.turn hB3 g3 hb (by have := hB3.size; omega)
  have hB7 : Below A w V5 := Below.turn hB6 g5 (by omega) (by have := hB6.size; omega)
  have hk6 : KeptT V4 V5 := ⟨g5.size, fun q cs T fr x1 x2 x3 x4 => by
    rw [g5.block q (Array.getElem?_eq_some_iff.1 x4).1 ?_]
    · exact x4
    · intro e
      injection e with e
      subst e
      rcases ho4.2 with ⟨h', _⟩ | ⟨g', cap', cur, h', _, hgx, _⟩
      · cases h'
      · injection h' with h1 _ _
        injection h1 with h1
        injection h1 with h1 _ _
        subst h1
        rw [x4] at hgx
        injection hgx with h1
        injection h1 with _ h1
        exact x3 h1⟩
  have hz6 := g3.size
  have hK7 : KeptR B b w V5 := (hK3.trans (KeptR.set hR3 (by omega) g3)).trans (KeptR.of_grown ho4 (by omega) g5)
  refine ⟨hR3.c36 hi, W4, W5, V4, V5, hs1, hs2, hs3, hs4, fun W hW => ?_⟩
  rcases hW with rfl | rfl
  · refine ⟨hR5, mk _ (own_turn (a1.kept g1 (apS a1 ho (by decide))) g2 hR4 (by decide)) (own_turn (a2.kept g1 (apS a2 ho (by decide))) g2 hR4 (by decide)) (own_turn (a3.kept g1 (apS a3 ho (by decide))) g2 hR4 (by decide)) (own_turn o1 g2 hR4 (by decide)), hB5, hK5⟩
  · have b1 := own_turn a1 g3 hR3 (by decide)
    have b2 := own_turn a2 g3 hR3 (by decide)
    have b3 := own_turn a3 g3 hR3 (by decide)
    exact ⟨(g5.block b hR6.lt (fun e => hgb (by injection e with e; exact e.symm))).trans hR6, mk _ (b1.kept g5 (apS b1 ho4 (by decide))) (b2.kept g5 (apS b2 ho4 (by decide))) (b3.kept g5 (apS b3 ho4 (by decide))) o5, hB7, hK7⟩

attribute [-go_sem] Instr.storeAt
set_option maxHeartbeats 8000000 in
set_option maxRecDepth 100000 in
theorem hold5 (P : Pk) (tv pv ov mv : Value) (n : Nat) (last key value : ByteArray) (B N b : Nat) (w0 w : World) (hG : Ground w0) (hB0 : Below w0.heap.size w0 w) (hAB : w0.heap.size ≤ B) (hBw : B ≤ w.heap.size) (hR : Rd w b P tv pv ov mv n last) (hO : OL w B N P tv pv ov mv) (hb : w0.heap.size ≤ b) (hN : N ≤ 100000) (hks : key.size ≤ 1000000) (hvs : value.size ≤ 1000000) (hk : kindI key = 5) :
    Calls Tryz.prog 46 #[.pointer (some ⟨b, 0, none⟩), .string key, .string value] w (HoldPost w0.heap.size B N b P n last key value w) := by
  have hAw := hB0.size
  have hi : P.info.length = 32 := hO.info
  have hblt := hR.lt
  obtain ⟨e0, e1, e2, e3, e4⟩ := keyb key
  rw [hk] at e0 e1 e2 e3 e4
  replace e0 := e0.trans (show _ = false by decide)
  replace e1 := e1.trans (show _ = false by decide)
  replace e2 := e2.trans (show _ = false by decide)
  replace e3 := e3.trans (show _ = false by decide)
  replace e4 := e4.trans (show _ = false by decide)
  have hsb : (value.toList == []) = decide (value = ⟨#[]⟩) := by rw [← str_beq, Lib.toList_data ⟨#[]⟩]
  have hsb' := isEmpty_str value
  obtain ⟨A, hBB⟩ : ∃ A, w0.heap.size = A := ⟨_, rfl⟩
  have HB0 : Hid (Below A w0 w) := by rw [← hBB]; exact hB0
  have HR := Lib.hid hR
  have HO : Hid (OL w B N P tv pv ov mv) := hO
  have HI := Lib.hid hi
  have HH : Hid (holdP P key value = ({ P with more := P.more ++ [(key, value)] }, 0)) := by
    refine Lib.hid ?_
    unfold holdP
    simp [hk]
  rw [hBB] at hb hAw hAB ⊢
  have c36 := hR.c36 hi
  clear hB0 hG hR hO hi hk hBB
  obtain ⟨k, hkl⟩ : ∃ k, P.more.length = k := ⟨_, rfl⟩
  have hkN : k ≤ 100000 := by have := HO.out.cnt.2.2.1; omega
  have hm1 : k + 1 ≤ maxLen := by unfold maxLen; omega
  have hm2 : (k + 1) * 96 ≤ 140737488355328 := by omega
  have a1 : (0 : Int) ≤ (k : Int) := by omega
  have a2 : (k : Int) < (k : Int) + 1 := by omega
  obtain ⟨ma, mc, hmv⟩ := HO.out.slices.2.2.2
  rw [hkl] at hmv
  have HMO : Hid (∀ o : Obj, (w.drew.alloc o).ownsRow B 51 6 mv k (rows6 P.more)) := fun o => by
    have := (HO.out.mo.drew).alloc o
    rw [hkl] at this
    exact this
  have HT : Hid (∀ (g cap : Nat) (w3 : World) (o : Obj), w3.ownsRow B 51 6 (.slice (some ⟨g, 0, none⟩) (k + 1) cap) (k + 1) (rows6 P.more ++ zpair) → (w.drew.alloc o).grownBy w3 mv.ownBlock → Two w.drew w3 A B N b P tv pv ov mv n last key value g cap) := fun g cap w3 o h1 h2 => by
    have hBd : Below w.heap.size w w.drew := below_N (Below.refl _ _) 1
    rw [← hkl] at h1
    exact two hb hAB (by simpa using hBw) (HR.out.below hBd hblt) (HO.out.below hBd) hks hvs h1 h2
  have HBD : Hid (Below A w w.drew) := below_N (Below.refl _ _) 1
  have HKD : Hid (KeptR B b w w.drew) := KeptR.of_below (below_N (Below.refl _ _) 1) hBw
  have HKL := Lib.hid hkl
  subst hmv
  generalize decide (value = ⟨#[]⟩) = vb at hsb hsb'
  clear hkl
  go_enter Tryz.func46, Tryz.ntmps46
  cases vb
  all_goals
    go_wp2_with fail
    go_region_law ((refine step_appL (by rfl) _ _ 27 (by rfl) B 51 _ 6 96 Twin.infoP (by rfl) (by decide) Tryz.underlying27 _ k (rows6 P.more) (by rfl) (HMO.out _) ⟨w.heap.size, 0, none⟩ 1 1 zpair (by rfl) (by rfl) (news_block (cs := zpair.toArray) (Go.heap_alloc_new _ _)) (by simp [zpair, Value.oneCell']) (by decide) hm1 hm2 (by simp; omega) ?_; intro g cap w3 ho3 hgr3 hlie hglt; obtain ⟨d36, W4, W5, V4, V5, s1, s2, s3, s4, hfin⟩ := HT.out g cap w3 _ ho3 hgr3; rw [HKL.out] at s1 s2 s3 s4 hfin; simp only [vpair] at s1 s4; clear ho3 hgr3 hlie hglt))
    all_goals
      have HFIN := Lib.hid hfin
      clear hfin
      go_wp2
      go_ret
      first
        | (obtain ⟨r1, r2, r3, r4⟩ := HFIN.out.out _ (Or.inl rfl)
           exact ⟨_, _, _, _, _, by rw [HH.out]; rfl, r1, r2, fun _ => by rw [HH.out], HBD.out.trans r3, HKD.out.trans r4⟩)
        | (obtain ⟨r1, r2, r3, r4⟩ := HFIN.out.out _ (Or.inr rfl)
           exact ⟨_, _, _, _, _, by rw [HH.out]; rfl, r1, r2, fun _ => by rw [HH.out], HBD.out.trans r3, HKD.out.trans r4⟩)

end Go.Proofs.YtdfiblaboddbjaaGreatDoor.Prs
