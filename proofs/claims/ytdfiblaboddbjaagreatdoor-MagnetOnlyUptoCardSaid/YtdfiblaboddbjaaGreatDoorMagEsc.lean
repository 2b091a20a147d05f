import Derived.Test.YtdfiblaboddbjaaGreatDoorMagBare
import Derived.Test.YtdfiblaboddbjaaGreatDoorShelf
import Derived.Handy
import Derived.Test.YtdfiblaboddbjaaGreatDoorBase
namespace Go.Proofs.YtdfiblaboddbjaaGreatDoor.Mag
open Go.RowKit Go.Proofs.YtdfiblaboddbjaaGreatDoor.Base
set_option linter.unusedVariables false
set_option linter.unusedSimpArgs false

theorem run_index_bare_k (kd : IntKind) (n : Nat) (hn : n < 256) (w : World) : (Instr.index 110 (.agg bareArr) (.int kd n)).run Tryz.prog w = .ok (.bool (bareB n)) w := by
  have h2 : (Go.sizeOf 4).run Tryz.prog w = .ok 1 w := by kernel_rfl
  have h3 := bareArr_get n hn
  simp [Instr.index, asIntOf, run_underlying Tryz.underlying110, part, h2, h3]
  omega

theorem run_index_bare (n : Nat) (hn : n < 256) (w : World) : (Instr.index 110 (.agg bareArr) (.int .u8 n)).run Tryz.prog w = .ok (.bool (bareB n)) w := run_index_bare_k .u8 n hn w

/-- how one byte is written -/
def hexC (n : Nat) : UInt8 := if n < 10 then UInt8.ofNat (48 + n) else UInt8.ofNat (55 + n)
theorem hexC_eq (n : Nat) (h : n < 16) : (ByteArray.mk #[48, 49, 50, 51, 52, 53, 54, 55, 56, 57, 65, 66, 67, 68, 69, 70])[n]'h = hexC n := by
  have : ∀ m : Fin 16, (ByteArray.mk #[48, 49, 50, 51, 52, 53, 54, 55, 56, 57, 65, 66, 67, 68, 69, 70])[m.1]'m.2 = hexC m.1 := by decide
  exact this ⟨n, h⟩
def escB (c : UInt8) : List UInt8 := if bareB c.toNat then [c] else [37, hexC (c.toNat / 16), hexC (c.toNat % 16)]
def escL (l : List UInt8) : List UInt8 := l.flatMap escB

theorem escL_snoc (l : List UInt8) (c : UInt8) : escL (l ++ [c]) = escL l ++ escB c := by simp [escL]
theorem escB_len (c : UInt8) : (escB c).length ≤ 3 := by unfold escB; split <;> simp
theorem escL_len (l : List UInt8) : (escL l).length ≤ 3 * l.length := by
  induction l with
  | nil => simp [escL]
  | cons c r ih =>
    have := escB_len c
    simp only [escL, List.flatMap_cons, List.length_append, List.length_cons] at *
    omega
set_option maxHeartbeats 1000000 in
set_option maxRecDepth 100000 in
theorem escape (s : ByteArray) (w : World) (hs : s.size ≤ 1099511627776) :
    Calls Tryz.prog 55 #[.string s] w fun e w' => e = .returned (.string ⟨(escL s.data.toList).toArray⟩) ∧ Below w.heap.size w w' := by
  go_enter Tryz.func55, Tryz.ntmps55
  go_wp2
  go_loopw [8] (fun v8 wr => ∃ k : Nat, k ≤ s.size ∧ v8 = .int .i64 k ∧ Lib.IsBuilder 96 5 w.heap.size w.heap.size (Lib.byteCells (escL (s.data.toList.take k))) wr ∧ Below w.heap.size w wr) (fun v8 _ => s.size - (intOf v8).toNat)
  case atStart =>
    refine ⟨0, Nat.zero_le _, rfl, Or.inl ⟨Nat.le_refl _, .slice none 0 0, heap_alloc_new _ _, ?_, by simp [Value.ownBlock]⟩, (Below.refl _ _).alloc (Nat.le_refl _) _⟩
    exact ⟨rfl, Or.inl ⟨rfl, rfl⟩⟩
  case round =>
    obtain ⟨k, hk, rfl, hbld, hB⟩ := hrel
    have HBld := Lib.hid hbld
    clear hbld
    by_cases hlt : k < s.size
    · by_cases hc : bareB s[k].toNat = true
      · go_wp2_with fail
        refine (bareTable _).mono ?_
        rintro e w1 ⟨rfl, hb1⟩
        have hidx := run_index_bare s[k].toNat (UInt8.toNat_lt _) w1
        have hc' : bareB s[k].toNat = true := hc
        go_wp2_with fail
        clear hidx hc'
        have h1 := isBuilder_below HBld.out hb1
        have hlen := escL_len (s.data.toList.take k)
        have htk : (s.data.toList.take k).length ≤ k := List.length_take_le _ _
        refine (writeByte w.heap.size w.heap.size _ (s[k].toNat : Int) w1 h1 (by simp only [Lib.byteCells, List.length_map]; omega) (Nat.le_trans hB.size hb1.size)).mono ?_
        rintro e w2 ⟨rfl, h2, hb2⟩
        have H2 := Lib.hid h2
        clear h2 h1 hlen htk
        go_wp2_with fail
        go_roundw
        case rel => 
          refine ⟨k + 1, by omega, by go_num, ?_, (hB.trans (hb1.mono hB.size)).trans hb2⟩
          have e := take_snoc s k hlt
          rw [e, escL, List.flatMap_append]
          refine Or.inr ?_
          have := H2.out
          simpa [escB, hc, escL, Lib.byteCells] using this
        case measure => simp [intOf]; omega
      · go_wp2_with fail
        refine (bareTable _).mono ?_
        rintro e w1 ⟨rfl, hb1⟩
        have hidx := run_index_bare s[k].toNat (UInt8.toNat_lt _) w1
        have hc' : bareB s[k].toNat = false := by simpa using hc
        go_wp2_with fail
        clear hidx hc'
        have h1 := isBuilder_below HBld.out hb1
        have hlen := escL_len (s.data.toList.take k)
        have htk : (s.data.toList.take k).length ≤ k := List.length_take_le _ _
        refine (writeByte w.heap.size w.heap.size _ 37 w1 h1 (by simp only [Lib.byteCells, List.length_map]; omega) (Nat.le_trans hB.size hb1.size)).mono ?_
        rintro e w2 ⟨rfl, h2, hb2⟩
        have H2 := Lib.hid h2
        clear h2 h1
        have h16 : s[k].toNat / 16 < 16 := by have := UInt8.toNat_lt s[k]; omega
        have h16' : s[k].toNat % 16 < 16 := by omega
        go_wp2_with fail
        rw [hexC_eq _ h16]
        refine (writeByte w.heap.size w.heap.size _ _ w2 (Or.inr H2.out) (by simp only [Lib.byteCells, List.length_map, List.length_append, List.length_cons, List.length_nil]; omega) (Nat.le_trans hB.size (Nat.le_trans hb1.size hb2.size))).mono ?_
        rintro e w3 ⟨rfl, h3, hb3⟩
        have H3 := Lib.hid h3
        clear h3
        go_wp2_with fail
        rw [hexC_eq _ h16']
        refine (writeByte w.heap.size w.heap.size _ _ w3 (Or.inr H3.out) (by simp only [Lib.byteCells, List.length_map, List.length_append, List.length_cons, List.length_nil]; omega) (Nat.le_trans hB.size (Nat.le_trans hb1.size (Nat.le_trans hb2.size hb3.size)))).mono ?_
        rintro e w4 ⟨rfl, h4, hb4⟩
        have H4 := Lib.hid h4
        clear h4
        go_wp2_with fail
        go_roundw
        case rel =>
          refine ⟨k + 1, by omega, by go_num, ?_, (((hB.trans (hb1.mono hB.size)).trans hb2).trans hb3).trans hb4⟩
          have e := take_snoc s k hlt
          rw [e, escL, List.flatMap_append]
          refine Or.inr ?_
          have := H4.out
          simpa [escB, hc, escL, Lib.byteCells] using this
        case measure => simp [intOf]; omega
    · go_wp2_with fail
      refine (Tryz.Builder_String_any w.heap.size w.heap.size (escL s.data.toList) _ ?h (hB.size)).mono ?_
      case h =>
        have : s.data.toList.take k = s.data.toList := List.take_of_length_le (by simp; omega)
        have h := HBld.out
        rw [this] at h
        exact h
      rintro e w1 ⟨rfl, hb1⟩
      go_wp2_with fail
      go_ret
      exact ⟨rfl, hB.trans hb1⟩

end Go.Proofs.YtdfiblaboddbjaaGreatDoor.Mag
