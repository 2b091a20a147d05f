import Derived.Test.YtdfiblaboddbjaaDoorMagEsc
import Derived.Deep.RegionHeld3
namespace Go.Proofs.YtdfiblaboddbjaaDoor.Mag
open Go.RowKit Go.Proofs.YtdfiblaboddbjaaDoor.Base
set_option linter.unusedVariables false
set_option linter.unusedSimpArgs false

/-- the place of the first byte c, -1: none -/
def plc (l : List UInt8) (c : Nat) : Int := match l.findIdx? (fun b => b.toNat == c) with | some i => (i : Int) | none => -1

theorem plc_hit (l : List UInt8) (c k : Nat) (hk : k < l.length) (h : l[k].toNat = c) (hn : ∀ j (hj : j < k), (l[j]'(by omega)).toNat ≠ c) : plc l c = k := by
  have : l.findIdx? (fun b => b.toNat == c) = some k := by
    rw [List.findIdx?_eq_some_iff_getElem]
    exact ⟨hk, by simpa using h, fun j hj => by simpa using hn j hj⟩
  simp [plc, this]
theorem plc_miss (l : List UInt8) (c : Nat) (hn : ∀ j (hj : j < l.length), (l[j]).toNat ≠ c) : plc l c = -1 := by
  have : l.findIdx? (fun b => b.toNat == c) = none := by
    rw [List.findIdx?_eq_none_iff]
    intro x hx
    obtain ⟨j, hj, rfl⟩ := List.getElem_of_mem hx
    simpa using hn j hj
  simp [plc, this]

set_option maxHeartbeats 1000000 in
set_option maxRecDepth 100000 in
theorem rplace (s : ByteArray) (c : Nat) (w : World) (hs : s.size ≤ 1099511627776) :
    Calls Tryd.prog 69 #[.string s, .int .u8 c] w fun e w' => e = .returned (.int .i64 (plc s.data.toList c)) ∧ w = w' := by
  go_enter Tryd.func69, Tryd.ntmps69
  go_wp2
  go_loop [5] (fun v5 => ∃ k : Nat, k ≤ s.size ∧ v5 = .int .i64 k ∧ (∀ j (hj : j < k) (hj' : j < s.size), s[j].toNat ≠ c)) (fun v5 => s.size - (intOf v5).toNat)
  case atStart => exact ⟨0, Nat.zero_le _, rfl, fun j hj => by omega⟩
  case round =>
    obtain ⟨k, hk, rfl, hn⟩ := hrel
    have HN := Lib.hid hn
    clear hn
    by_cases hlt : k < s.size
    · by_cases hc : s[k].toNat = c
      · have hc' : ((s[k].toNat : Int) == (c : Int)) = true := by simp [hc]
        go_wp2
        go_ret
        have := plc_hit s.data.toList c k (by simpa using hlt) hc (fun j hj => HN.out j hj (by omega))
        exact ⟨by rw [this]; rfl, rfl⟩
      · have hc' : ((s[k].toNat : Int) == (c : Int)) = false := by simp; omega
        go_wp2
        go_round
        case rel =>
          refine ⟨k + 1, by omega, by go_num, fun j hj hj' => ?_⟩
          by_cases e : j = k
          · subst e; exact hc
          · exact HN.out j (by omega) hj'
        case measure => simp [intOf]; omega
    · go_wp2
      go_ret
      have := plc_miss s.data.toList c (fun j hj => HN.out j (by simp at hj; omega) (by simpa using hj))
      exact ⟨by rw [this]; rfl, rfl⟩

theorem run_index_hex (n : Nat) (h : n < 16) (w : World) : (Instr.index 9 (.string ⟨#[48, 49, 50, 51, 52, 53, 54, 55, 56, 57, 65, 66, 67, 68, 69, 70]⟩) (.int .u8 (n : Int))).run Tryd.prog w = .ok (.int .u8 ((hexC n).toNat : Int)) w := by
  have := run_index_str Tryd.underlying9 ⟨#[48, 49, 50, 51, 52, 53, 54, 55, 56, 57, 65, 66, 67, 68, 69, 70]⟩ .u8 n h w
  rw [hexC_eq n h] at this
  exact this
theorem bare_plc (c : Nat) (h : c < 256) : decide (plc [65, 66, 67, 68, 69, 70, 71, 72, 73, 74, 75, 76, 77, 78, 79, 80, 81, 82, 83, 84, 85, 86, 87, 88, 89, 90, 97, 98, 99, 100, 101, 102, 103, 104, 105, 106, 107, 108, 109, 110, 111, 112, 113, 114, 115, 116, 117, 118, 119, 120, 121, 122, 48, 49, 50, 51, 52, 53, 54, 55, 56, 57, 45, 46, 95, 126, 33, 36, 39, 40, 41, 42, 44, 59, 58, 64, 47, 63] c ≥ 0) = bareB c := by
  have : ∀ c : Fin 256, decide (plc [65, 66, 67, 68, 69, 70, 71, 72, 73, 74, 75, 76, 77, 78, 79, 80, 81, 82, 83, 84, 85, 86, 87, 88, 89, 90, 97, 98, 99, 100, 101, 102, 103, 104, 105, 106, 107, 108, 109, 110, 111, 112, 113, 114, 115, 116, 117, 118, 119, 120, 121, 122, 48, 49, 50, 51, 52, 53, 54, 55, 56, 57, 45, 46, 95, 126, 33, 36, 39, 40, 41, 42, 44, 59, 58, 64, 47, 63] c.1 ≥ 0) = bareB c.1 := by decide +kernel
  exact this ⟨c, h⟩

set_option maxHeartbeats 1000000 in
set_option maxRecDepth 100000 in
theorem rbare (c : Nat) (h : c < 256) (w : World) :
    Calls Tryd.prog 79 #[.int .u8 c] w fun e w' => e = .returned (.bool (bareB c)) ∧ w = w' := by
  go_enter Tryd.func79, Tryd.ntmps79
  go_wp2_with fail
  refine (rplace _ c _ (by decide)).mono ?_
  rintro e w1 ⟨rfl, rfl⟩
  have hb := bare_plc c h
  generalize plc _ c = t at hb ⊢
  go_wp2
  go_ret
  exact ⟨by rw [← hb]; rfl, rfl⟩

set_option maxHeartbeats 1000000 in
set_option maxRecDepth 100000 in
theorem rescape (s : ByteArray) (w : World) (hs : s.size ≤ 1099511627776) :
    Calls Tryd.prog 60 #[.string s] w fun e w' => e = .returned (.string ⟨(escL s.data.toList).toArray⟩) ∧ Below w.heap.size w w' := by
  go_enter Tryd.func60, Tryd.ntmps60
  go_wp2
  go_loopw [3, 4] (fun v3 v4 wr => ∃ k : Nat, k ≤ s.size ∧ v4 = .int .i64 k ∧ wr.ownsRow w.heap.size 5 1 v3 (escL (s.data.toList.take k)).length (Lib.byteCells (escL (s.data.toList.take k))) ∧ Below w.heap.size w wr) (fun _ v4 _ => s.size - (intOf v4).toNat)
  case atStart => exact ⟨0, Nat.zero_le _, rfl, ⟨rfl, Or.inl ⟨rfl, rfl⟩⟩, Below.refl _ _⟩
  case round =>
    obtain ⟨k, hk, rfl, hown, hB⟩ := hrel
    have HO := Lib.hid hown
    clear hown
    have hlen := escL_len (s.data.toList.take k)
    have htk : (s.data.toList.take k).length ≤ k := List.length_take_le _ _
    by_cases hlt : k < s.size
    · by_cases hc : bareB s[k].toNat = true
      · go_wp2_with fail
        refine (rbare s[k].toNat (UInt8.toNat_lt _) _).mono ?_
        rintro e w1 ⟨rfl, rfl⟩
        have hc' := hc
        go_wp2_with (at_builtin; refine wpList_app1 rfl _ _ 77 rfl w.heap.size 5 (.int .u8 0) 1 infoByte rfl Tryd.underlying77 _ _ _ rfl (HO.out.alloc _) wr.heap.size (.int .u8 s[k].toNat) rfl (by simp) rfl ?c1 ?c2 ?c3 ?_)
        case c1 => unfold maxLen; omega
        case c2 => omega
        case c3 => have := hB.size; simp; omega
        intro g' cap w1 ho1 hb1 _
        have HO1 := Lib.hid ho1
        clear ho1
        go_wp2
        go_roundw
        case rel =>
          refine ⟨k + 1, by omega, by go_num, ?_, (hB.alloc (by have := hB.size; omega) _).trans hb1⟩
          have := HO1.out
          rw [take_snoc s k hlt, escL_snoc]
          simpa [escB, hc, Lib.byteCells] using this
        case measure => simp [intOf]; omega
      · go_wp2_with fail
        refine (rbare s[k].toNat (UInt8.toNat_lt _) _).mono ?_
        rintro e w1 ⟨rfl, rfl⟩
        have hc' : bareB s[k].toNat = false := by simpa using hc
        have h16 : s[k].toNat / 16 < 16 := by have := UInt8.toNat_lt s[k]; omega
        have h16' : s[k].toNat % 16 < 16 := by omega
        go_wp2_with fail
        have hw0 := hB.size
        have hq1 : IntKind.u8.wrap ((s[k].toNat : Int) / 16) = ((s[k].toNat / 16 : Nat) : Int) := by
          simp [IntKind.wrap, IntKind.bits, IntKind.signed]; omega
        have hq2 : (s[k].toNat : Int).tmod 16 = ((s[k].toNat % 16 : Nat) : Int) := by
          rw [Int.tmod_eq_emod_of_nonneg (by omega)]; omega
        have hd1 := run_index_hex (s[k].toNat / 16) h16
        have hd2 := run_index_hex (s[k].toNat % 16) h16'
        push_cast at hd1 hd2 hq1 hq2
        have hd0 := run_index_str Tryd.underlying9 s .i64 k hlt
        go_region_held3 (fun _ => True) (trivial) ((refine step_appM rfl _ _ 77 rfl w.heap.size 5 (.int .u8 0) 1 infoByte rfl Tryd.underlying77 _ _ _ rfl (((HO.out.drew).alloc _)) wr.heap.size 3 3 _ 5 (0, 0) rfl (Go.heap_alloc_new _ _) (by simp) (by simp [Value.oneCell']) (by unfold maxLen; omega) (by omega) (by simp; omega) ?_; intro v' w1 ho1 hb1 hg1))
        all_goals
          have HO1 := Lib.hid ho1
          clear ho1
          go_wp2
          go_roundw
          case rel =>
            refine ⟨k + 1, by omega, by go_num, ?_, ((hB.drew).alloc (by simp; omega) _).trans hb1⟩
            have := HO1.out
            rw [take_snoc s k hlt, escL_snoc]
            simpa [escB, hc, Lib.byteCells] using this
          case measure => simp [intOf]; omega
    · have hv := conv_own Tryd.underlying77 Tryd.underlying5 Tryd.underlying9 wr HO.out
      rw [take_all s k hlt] at hv
      go_wp2
      go_ret
      exact ⟨rfl, hB⟩

end Go.Proofs.YtdfiblaboddbjaaDoor.Mag
