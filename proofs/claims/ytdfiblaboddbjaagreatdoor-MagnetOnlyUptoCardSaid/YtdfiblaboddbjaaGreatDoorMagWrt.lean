import Derived.Test.YtdfiblaboddbjaaGreatDoorMagSort
import Derived.Test.YtdfiblaboddbjaaGreatDoorMagEsc
import Derived.Test.YtdfiblaboddbjaaGreatDoorMagRef
namespace Go.Proofs.YtdfiblaboddbjaaGreatDoor.Has
open Go.RowKit Go.Proofs.YtdfiblaboddbjaaGreatDoor.Base Go.Proofs.YtdfiblaboddbjaaGreatDoor.Rep Go.Proofs.YtdfiblaboddbjaaGreatDoor.Mag
set_option linter.unusedVariables false
set_option linter.unusedSimpArgs false

theorem strCells_bytes (s : ByteArray) : Lib.strCells s = Lib.byteCells s.data.toList := by
  simp [Lib.strCells, Lib.byteCells]
theorem byteCells_app (a b : List UInt8) : Lib.byteCells (a ++ b) = Lib.byteCells a ++ Lib.byteCells b := by simp [Lib.byteCells]

set_option maxHeartbeats 2000000 in
set_option maxRecDepth 100000 in
theorem writeStringK (B b : Nat) (l : List UInt8) (s : ByteArray) (w : World) (h : Lib.IsBuilder 96 5 B b (Lib.byteCells l) w) (hlen : l.length + s.size ≤ 140737488355328) (hBw : B ≤ w.heap.size) :
    Calls Tryz.prog 54 #[.pointer (some ⟨b, 0, none⟩), .string s] w fun e w' => e = .returned (.tuple #[.int .i64 s.size, .nilIface]) ∧ Lib.IsBuilder 96 5 B b (Lib.byteCells (l ++ s.data.toList)) w' ∧ Below B w w' ∧ KeptU b w w' := by
  obtain ⟨i0, hi, hz0, hz1, hz2⟩ := info_parts infoByte
  go_enter Tryz.func54, Tryz.ntmps54
  go_wp2_with (go_at_call 70; refine (copyCheck_keptU B b _ _ h).mono ?_)
  rintro e w1 ⟨rfl, ⟨h1, hb1⟩, hk1⟩
  obtain ⟨hB, v, hbk, hown, hne⟩ := h1
  have c0 : w1.cell? ⟨b, 0, none⟩ = some (.pointer (some ⟨b, 0, none⟩)) := by rw [Lib.cell_of_heap hbk]; rfl
  have c1 : w1.cell? ⟨b, 1, none⟩ = some v := by rw [Lib.cell_of_heap hbk]; rfl
  have hll : (Lib.byteCells l).length = l.length := by simp [Lib.byteCells]
  go_wp2_with (at_builtin; refine Lib.wpList_append_own_string _ rfl _ _ 41 9 rfl B 5 i0 Tryz.underlying41 Tryz.underlying9 hi hz0 hz1 hz2 _ _ _ rfl hown s rfl ?c3 ?c4 ?c5 ?_)
  case c3 => unfold maxLen; omega
  case c4 => omega
  case c5 => have := hb1.size; omega
  intro v' w2 hown' hgrow _
  have hlt : b < w1.heap.size := by
    rcases Nat.lt_or_ge b w1.heap.size with h' | h'
    · exact h'
    · simp [Array.getElem?_eq_none h'] at hbk
  have hb2 : w2.heap[b]? = some (.cells #[.pointer (some ⟨b, 0, none⟩), v] 96 (0, 0)) := by
    rw [hgrow.block b hlt (fun e => hne e.symm)]
    exact hbk
  have d0 : w2.cell? ⟨b, 0, none⟩ = some (.pointer (some ⟨b, 0, none⟩)) := by rw [Lib.cell_of_heap hb2]; rfl
  have d1 : w2.cell? ⟨b, 1, none⟩ = some v := by rw [Lib.cell_of_heap hb2]; rfl
  have f1 : w2.frozen? ⟨b, 1, none⟩ = false := Lib.frozen_of_heap hb2 1
  obtain ⟨ao, n', cap, rfl⟩ : ∃ ao n' cap, v' = .slice ao n' cap := by
    rcases hown'.2 with ⟨hv, _⟩ | ⟨g, cap, cur, hv, _⟩
    · exact ⟨_, _, _, hv⟩
    · exact ⟨_, _, _, hv⟩
  go_wp2
  go_ret2
  refine ⟨rfl, ?_, ?_, (hk1.trans (KeptU.grown hown hgrow)).trans (KeptU.setCell b 1 _ _)⟩
  · rw [byteCells_app, ← strCells_bytes]
    exact Or.inr (Lib.BuilderAt.put (T := 96) (e := 5) hB hb2 (bs' := Lib.byteCells l ++ Lib.strCells s) (by simpa [Lib.strCells_length, Lib.byteCells_length] using hown') (by decide))
  · exact (hb1.grown hgrow (by have := hb1.size; omega) (fun k hk => (hown.lt k hk).1)).setCell (p := ⟨b, 1, none⟩) hB _

theorem writeString (B b : Nat) (l : List UInt8) (s : ByteArray) (w : World) (h : Lib.IsBuilder 96 5 B b (Lib.byteCells l) w) (hlen : l.length + s.size ≤ 140737488355328) (hBw : B ≤ w.heap.size) :
    Calls Tryz.prog 54 #[.pointer (some ⟨b, 0, none⟩), .string s] w fun e w' => e = .returned (.tuple #[.int .i64 s.size, .nilIface]) ∧ Lib.IsBuilder 96 5 B b (Lib.byteCells (l ++ s.data.toList)) w' ∧ Below B w w' :=
  (writeStringK B b l s w h hlen hBw).mono fun _ _ h => ⟨h.1, h.2.1, h.2.2.1⟩

set_option maxHeartbeats 1000000 in
set_option maxRecDepth 100000 in
theorem putPairK (B b : Nat) (l : List UInt8) (k v : ByteArray) (w : World) (h : Lib.IsBuilder 96 5 B b (Lib.byteCells l) w) (hlen : l.length + k.size + v.size + 2 ≤ 140737488355328) (hBw : B ≤ w.heap.size) :
    Calls Tryz.prog 52 #[.string k, .string v, .pointer (some ⟨b, 0, none⟩)] w fun e w' => e = .returned (.tuple #[]) ∧ Lib.IsBuilder 96 5 B b (Lib.byteCells (l ++ (38 :: k.data.toList ++ 61 :: v.data.toList))) w' ∧ Below B w w' ∧ KeptU b w w' := by
  have hkl : k.data.toList.length = k.size := by simp
  have hvl : v.data.toList.length = v.size := by simp
  have hll : ∀ x : List UInt8, (Lib.byteCells x).length = x.length := fun x => by simp [Lib.byteCells]
  go_enter Tryz.func52, Tryz.ntmps52
  go_wp2_with fail
  refine (writeByteK B b _ 38 _ h (by rw [hll]; omega) hBw).mono ?_
  rintro e w1 ⟨rfl, ⟨h1, hb1⟩, k1⟩
  have h1' : Lib.IsBuilder 96 5 B b (Lib.byteCells (l ++ [38])) w1 := by rw [byteCells_app]; exact Or.inr h1
  have s1 := hb1.size
  go_wp2_with fail
  refine (writeStringK B b _ k _ h1' (by simp; omega) (by omega)).mono ?_
  rintro e w2 ⟨rfl, h2, hb2, k2⟩
  have s2 := hb2.size
  go_wp2_with fail
  refine (writeByteK B b _ 61 _ h2 (by rw [hll]; simp; omega) (by omega)).mono ?_
  rintro e w3 ⟨rfl, ⟨h3, hb3⟩, k3⟩
  have h3' : Lib.IsBuilder 96 5 B b (Lib.byteCells (l ++ [38] ++ k.data.toList ++ [61])) w3 := by rw [byteCells_app _ [61]]; exact Or.inr h3
  have s3 := hb3.size
  go_wp2_with fail
  refine (writeStringK B b _ v _ h3' (by simp; omega) (by omega)).mono ?_
  rintro e w4 ⟨rfl, h4, hb4, k4⟩
  go_wp2
  go_end0
  refine ⟨rfl, ?_, ((hb1.trans hb2).trans hb3).trans hb4, ((k1.trans k2).trans k3).trans k4⟩
  simpa using h4

theorem putPair (B b : Nat) (l : List UInt8) (k v : ByteArray) (w : World) (h : Lib.IsBuilder 96 5 B b (Lib.byteCells l) w) (hlen : l.length + k.size + v.size + 2 ≤ 140737488355328) (hBw : B ≤ w.heap.size) :
    Calls Tryz.prog 52 #[.string k, .string v, .pointer (some ⟨b, 0, none⟩)] w fun e w' => e = .returned (.tuple #[]) ∧ Lib.IsBuilder 96 5 B b (Lib.byteCells (l ++ (38 :: k.data.toList ++ 61 :: v.data.toList))) w' ∧ Below B w w' :=
  (putPairK B b l k v w h hlen hBw).mono fun _ _ h => ⟨h.1, h.2.1, h.2.2.1⟩

end Go.Proofs.YtdfiblaboddbjaaGreatDoor.Has
