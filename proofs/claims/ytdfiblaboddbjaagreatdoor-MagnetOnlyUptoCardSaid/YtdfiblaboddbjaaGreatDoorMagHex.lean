import Derived.Test.YtdfiblaboddbjaaGreatDoorMagWrt
import Derived.Laws.MakeOwn
namespace Go.Proofs.YtdfiblaboddbjaaGreatDoor.Has
open Go.RowKit Go.Proofs.YtdfiblaboddbjaaGreatDoor.Base Go.Proofs.YtdfiblaboddbjaaGreatDoor.Rep Go.Proofs.YtdfiblaboddbjaaGreatDoor.Mag
set_option linter.unusedVariables false
set_option linter.unusedSimpArgs false

def hx (n : Nat) : UInt8 := if n < 10 then UInt8.ofNat (48 + n) else UInt8.ofNat (87 + n)
theorem hx_eq (n : Nat) (h : n < 16) : (ByteArray.mk #[48, 49, 50, 51, 52, 53, 54, 55, 56, 57, 97, 98, 99, 100, 101, 102])[n]'h = hx n := by
  have : ∀ m : Fin 16, (ByteArray.mk #[48, 49, 50, 51, 52, 53, 54, 55, 56, 57, 97, 98, 99, 100, 101, 102])[m.1]'m.2 = hx m.1 := by decide
  exact this ⟨n, h⟩
theorem run_index_hx (n : Nat) (h : n < 16) (w : World) : (Instr.index 9 (.string ⟨#[48, 49, 50, 51, 52, 53, 54, 55, 56, 57, 97, 98, 99, 100, 101, 102]⟩) (.int .u8 (n : Int))).run Tryz.prog w = .ok (.int .u8 ((hx n).toNat : Int)) w := by
  have := run_index_str Tryz.underlying9 ⟨#[48, 49, 50, 51, 52, 53, 54, 55, 56, 57, 97, 98, 99, 100, 101, 102]⟩ .u8 n h w
  rw [hx_eq n h] at this
  exact this
def hxB (c : UInt8) : List UInt8 := [hx (c.toNat / 16), hx (c.toNat % 16)]
def hxL (l : List UInt8) : List UInt8 := l.flatMap hxB
theorem hxL_snoc (l : List UInt8) (c : UInt8) : hxL (l ++ [c]) = hxL l ++ hxB c := by simp [hxL]
theorem hxL_len (l : List UInt8) : (hxL l).length = 2 * l.length := by
  induction l with
  | nil => simp [hxL]
  | cons c r ih =>
    simp only [hxL, List.flatMap_cons, List.length_append, List.length_cons, hxB, List.length_nil] at *
    omega
theorem ltake_snoc {A : Type} (l : List A) (k : Nat) (h : k < l.length) : l.take (k + 1) = l.take k ++ [l[k]] := by
  rw [List.take_add_one]; simp [h]

theorem and15 (n : Nat) (h : n < 256) : bits BinOp.and IntKind.u8 (n : Int) 15 = (n : Int) % 16 := by
  have : ∀ m : Fin 256, bits BinOp.and IntKind.u8 (m.1 : Int) 15 = (m.1 : Int) % 16 := by decide +kernel
  exact this ⟨n, h⟩

set_option maxHeartbeats 1000000 in
set_option maxRecDepth 100000 in
theorem digHex (l : List UInt8) (b o c : Nat) (w : World) (hc : ∀ j (h : j < l.length), w.cell? ⟨b, o + j, none⟩ = some (.int .u8 l[j].toNat)) (hb : b < w.heap.size) (hl : l.length ≤ 1048576) (hcap : l.length ≤ c) (hcm : c ≤ maxLen) :
    Calls Tryz.prog 14 #[.slice (some ⟨b, o, none⟩) l.length c] w fun e w' => e = .returned (.string ⟨(hxL l).toArray⟩) ∧ Below w.heap.size w w' := by
  have HC := Lib.hid hc
  clear hc
  obtain ⟨i0, hi, hz0, hz1, hz2⟩ := info_parts infoByte
  obtain ⟨w0, hmk, hown0, hg0⟩ := run_makeSlice_owned (P := Tryz.prog) (w := w) w.heap.size 41 5 i0 (.int .u8 0) 1 Tryz.underlying41 hi hz0 hz1 .i64 .i64 (2 * l.length) (by omega) (by rw [hz2]; omega) (by unfold maxLen; omega) (Nat.le_refl _)
  have hB0 : Below w.heap.size w w0 := (Below.refl _ w).grown hg0 (Nat.le_refl _) (fun k hk => by cases hk)
  have HO0 := Lib.hid hown0
  clear hown0 hg0
  push_cast at hmk
  go_enter Tryz.func14, Tryz.ntmps14
  go_wp2
  go_loopw [3, 12] (fun v3 v4 wr => ∃ k : Nat, k ≤ l.length ∧ v4 = .int .i64 k ∧ wr.ownsRow w.heap.size 5 1 v3 (hxL (l.take k)).length (Lib.byteCells (hxL (l.take k))) ∧ Below w.heap.size w wr) (fun _ v4 _ => l.length - (intOf v4).toNat)
  case atStart => exact ⟨0, Nat.zero_le _, rfl, HO0.out, hB0⟩
  case round =>
    obtain ⟨k, hk, rfl, hown, hB⟩ := hrel
    have HO := Lib.hid hown
    clear hown
    have hw0 := hB.size
    have hlen := hxL_len (l.take k)
    have htk : (l.take k).length = k := by simp; omega
    by_cases hlt : k < l.length
    · have x0 : wr.cell? ⟨b, o + k, none⟩ = some (.int .u8 l[k].toNat) := (hB.cell (p := ⟨b, o + k, none⟩) hb).trans (HC.out k hlt)
      have h16 : l[k].toNat / 16 < 16 := by have := UInt8.toNat_lt l[k]; omega
      have h16' : l[k].toNat % 16 < 16 := by omega
      have hk0 : (0 : Int) ≤ (k : Int) := by omega
      have hk1 : (k : Int) < (l.length : Int) := by omega
      have hd1 := run_index_hx (l[k].toNat / 16) h16
      have hd2 := run_index_hx (l[k].toNat % 16) h16'
      push_cast at hd1 hd2
      have hq1 : ((l[k].toNat : Int)).fdiv 16 = (l[k].toNat : Int) / 16 := by rw [Int.fdiv_eq_ediv_of_nonneg _ (by decide)]
      have hq2 : bits BinOp.and IntKind.u8 (l[k].toNat : Int) 15 = (l[k].toNat : Int) % 16 := and15 _ (UInt8.toNat_lt _)
      go_wp2_with fail
      go_region_held3 (fun _ => True) (trivial) ((refine step_appM rfl _ _ 41 rfl w.heap.size 5 (.int .u8 0) 1 infoByte rfl Tryz.underlying41 _ _ _ rfl (((HO.out.drew).alloc _)) wr.heap.size 2 2 _ 5 (0, 0) rfl (Go.heap_alloc_new _ _) (by simp) (by simp [Value.oneCell']) (by unfold maxLen; omega) (by omega) (by simp; omega) ?_; intro v' w1 ho1 hb1 hg1))
      all_goals
        have HO1 := Lib.hid ho1
        clear ho1
        clear hq1 hq2 hd1 hd2
        go_wp2
        go_roundw
        case rel =>
          refine ⟨k + 1, by omega, by go_num, ?_, ((hB.drew).alloc (by simp; omega) _).trans hb1⟩
          have := HO1.out
          rw [ltake_snoc l k hlt, hxL_snoc]
          have e : (hxL (l.take k) ++ hxB l[k]).length = (hxL (l.take k)).length + 2 := by simp [hxB]
          rw [e]
          simpa [hxB, Lib.byteCells] using this
        case measure => simp [intOf]; omega
    · have hv := conv_own Tryz.underlying41 Tryz.underlying5 Tryz.underlying9 wr HO.out
      rw [List.take_of_length_le (by omega)] at hv
      go_wp2
      go_ret
      exact ⟨rfl, hB⟩

end Go.Proofs.YtdfiblaboddbjaaGreatDoor.Has
