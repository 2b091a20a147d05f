import Derived.Test.YtdfiblaboddbjaaDoorMagRef
import Derived.Test.YtdfiblaboddbjaaDoorMagUne
namespace Go.Proofs.YtdfiblaboddbjaaDoor.Mag
open Go.RowKit Go.Proofs.YtdfiblaboddbjaaDoor.Base
set_option linter.unusedVariables false
set_option linter.unusedSimpArgs false

theorem plc_hex (c : UInt8) : plc [48, 49, 50, 51, 52, 53, 54, 55, 56, 57, 65, 66, 67, 68, 69, 70] c.toNat = hexV c := by
  have : ∀ c : Fin 256, plc [48, 49, 50, 51, 52, 53, 54, 55, 56, 57, 65, 66, 67, 68, 69, 70] c.1 = hexV (UInt8.ofNat c.1) := by decide +kernel
  have h := this ⟨c.toNat, UInt8.toNat_lt c⟩
  simpa using h

theorem rhex (c : UInt8) (w : World) :
    Calls Tryd.prog 69 #[.string ⟨#[48, 49, 50, 51, 52, 53, 54, 55, 56, 57, 65, 66, 67, 68, 69, 70]⟩, .int .u8 (c.toNat : Int)] w fun e w' => e = .returned (.int .i64 (hexV c)) ∧ w = w' := by
  have h := rplace ⟨#[48, 49, 50, 51, 52, 53, 54, 55, 56, 57, 65, 66, 67, 68, 69, 70]⟩ c.toNat w (by decide)
  rw [← plc_hex c]
  exact h

set_option maxHeartbeats 2000000 in
set_option maxRecDepth 100000 in
theorem runescape (s : ByteArray) (w : World) (hs : s.size ≤ 1099511627776) :
    Calls Tryd.prog 70 #[.string s] w fun e w' => e = .returned (uneV (une 0 s.data.toList)) ∧ Below w.heap.size w w' := by
  go_enter Tryd.func70, Tryd.ntmps70
  go_wp2
  go_loopw [4, 5] (fun v4 v5 wr => ∃ (k : Nat) (acc : List UInt8), k ≤ s.size ∧ v5 = .int .i64 k ∧ Hid (acc.length ≤ k ∧ une 0 s.data.toList = (une k (s.data.toList.drop k)).map (acc ++ ·)) ∧ Hid (wr.ownsRow w.heap.size 5 1 v4 acc.length (Lib.byteCells acc)) ∧ Below w.heap.size w wr) (fun _ v5 _ => s.size - (intOf v5).toNat)
  case atStart =>
    exact ⟨0, [], Nat.zero_le _, rfl, ⟨by simp, by simp; cases une 0 s.data.toList <;> rfl⟩, ⟨rfl, Or.inl ⟨rfl, rfl⟩⟩, Below.refl _ _⟩
  case round =>
    obtain ⟨k, acc, hk, rfl, HE, HO, hB⟩ := hrel
    have hw0 := hB.size
    by_cases hlt : k < s.size
    · have hd0 := run_index_str Tryd.underlying9 s .i64 k hlt
      by_cases hc : bareB s[k].toNat = true
      · have hc' := hc
        go_wp2_with fail
        refine (rbare s[k].toNat (UInt8.toNat_lt _) _).mono ?_
        rintro e w1 ⟨rfl, rfl⟩
        go_wp2_with (at_builtin; refine wpList_app1 rfl _ _ 77 rfl w.heap.size 5 (.int .u8 0) 1 infoByte rfl Tryd.underlying77 _ _ _ rfl (HO.out.alloc _) wr.heap.size (.int .u8 s[k].toNat) rfl (by simp) rfl ?c1 ?c2 ?c3 ?_)
        case c1 => have := HE.out.1; unfold maxLen; omega
        case c2 => have := HE.out.1; omega
        case c3 => simp; omega
        intro g' cap w1 ho1 hb1 _
        have HO1 := Lib.hid ho1
        clear ho1
        go_wp2
        refine ⟨⟨k + 1, acc ++ [s[k]], by omega, by go_num, ⟨by have := HE.out.1; simp; omega, ?_⟩, ?_, (hB.alloc (by omega) _).trans hb1⟩, by simp [intOf]; omega⟩
        · rw [HE.out.2, drop_cons s k hlt, une_bare _ _ _ hc, map_map_ex]
        · simpa [Lib.byteCells, Hid] using HO1.out
      · have hc' : bareB s[k].toNat = false := by simpa using hc
        by_cases h37 : s[k].toNat = 37 ∧ k + 3 ≤ s.size
        · obtain ⟨h37, h3⟩ := h37
          have hx1 := hexV_range s[k + 1]
          have hx2 := hexV_range s[k + 2]
          have hd1 := run_index_str_at Tryd.underlying9 s .i64 ((k : Int) + 1) (k + 1) (by omega) (by omega)
          have hd2 := run_index_str_at Tryd.underlying9 s .i64 ((k : Int) + 2) (k + 2) (by omega) (by omega)
          have hm1 : ((s[k].toNat : Int) != 37) = false := by simp [h37]
          have hpct : (hexV s[k + 1] < 0 ∨ hexV s[k + 2] < 0 ∨ bareB (hexV s[k + 1] * 16 + hexV s[k + 2]).toNat = true) → une 0 s.data.toList = .error k := by
            intro h
            rw [HE.out.2, drop_cons s k hlt, drop_cons s (k + 1) (by omega), drop_cons s (k + 2) (by omega), une_long _ _ _ _ _ hc', if_pos (UInt8.toNat_inj.1 h37), if_pos h]; rfl
          have hpct2 : ¬ (hexV s[k + 1] < 0 ∨ hexV s[k + 2] < 0 ∨ bareB (hexV s[k + 1] * 16 + hexV s[k + 2]).toNat = true) → une 0 s.data.toList = (une (k + 3) (s.data.toList.drop (k + 3))).map ((acc ++ [UInt8.ofNat (hexV s[k + 1] * 16 + hexV s[k + 2]).toNat]) ++ ·) := by
            intro h
            rw [HE.out.2, drop_cons s k hlt, drop_cons s (k + 1) (by omega), drop_cons s (k + 2) (by omega), une_long _ _ _ _ _ hc', if_pos (UInt8.toNat_inj.1 h37), if_neg h, map_map_ex]
          have HP := Lib.hid hpct
          have HP2 := Lib.hid hpct2
          clear h37 hpct hpct2
          go_wp2_with fail
          refine (rbare s[k].toNat (UInt8.toNat_lt _) _).mono ?_
          rintro e w1 ⟨rfl, rfl⟩
          go_wp2_with fail
          refine (rhex s[k + 1] _).mono ?_
          rintro e w1 ⟨rfl, rfl⟩
          go_wp2_with fail
          refine (rhex s[k + 2] _).mono ?_
          rintro e w1 ⟨rfl, rfl⟩
          clear hd0 hd1 hd2
          by_cases ha : hexV s[k + 1] < 0
          · have ha1 : decide (hexV s[k + 1] < 0) = true := by simpa using ha
            go_wp2
            go_ret2
            exact ⟨by rw [HP.out (Or.inl ha)]; rfl, hB⟩
          · by_cases hb : hexV s[k + 2] < 0
            · have ha1 : decide (hexV s[k + 1] < 0) = false := by simpa using ha
              have hb2 : decide (hexV s[k + 2] < 0) = true := by simpa using hb
              go_wp2
              go_ret2
              exact ⟨by rw [HP.out (Or.inr (Or.inl hb))]; rfl, hB⟩
            · obtain ⟨x, hx⟩ := Int.eq_ofNat_of_zero_le (Int.not_lt.1 ha)
              obtain ⟨y, hy⟩ := Int.eq_ofNat_of_zero_le (Int.not_lt.1 hb)
              have hxl : x < 16 := by omega
              have hyl : y < 16 := by omega
              rw [hx, hy]
              obtain ⟨z, hz⟩ : ∃ z : Nat, z = x * 16 + y := ⟨_, rfl⟩
              have hz0 : z < 256 := by omega
              have hzz : (hexV s[k + 1] * 16 + hexV s[k + 2]).toNat = z := by rw [hx, hy]; omega
              have hno : ¬ (hexV s[k + 1] < 0 ∨ hexV s[k + 2] < 0) := by omega
              have hwz : IntKind.u8.wrap (16 * (x : Int) + (y : Int)) = (z : Int) := by simp [IntKind.wrap, IntKind.bits, IntKind.signed]; omega
              have HX := Lib.hid hx
              have HY := Lib.hid hy
              have HZ := Lib.hid hzz
              have HZ0 := Lib.hid hz
              clear hx hy ha hb hzz hz
              by_cases hbz : bareB z = true
              · have hbz' := hbz
                go_wp2_with fail
                refine (rbare z hz0 _).mono ?_
                rintro e w1 ⟨rfl, rfl⟩
                go_wp2
                go_ret2
                refine ⟨?_, hB⟩
                rw [HP.out (Or.inr (Or.inr (by rw [HZ.out]; exact hbz)))]; rfl
              · have hbz' : bareB z = false := by simpa using hbz
                go_wp2_with fail
                refine (rbare z hz0 _).mono ?_
                rintro e w1 ⟨rfl, rfl⟩
                go_wp2_with (at_builtin; refine wpList_app1 rfl _ _ 77 rfl w.heap.size 5 (.int .u8 0) 1 infoByte rfl Tryd.underlying77 _ _ _ rfl (HO.out.alloc _) wr.heap.size (.int .u8 z) rfl (by simp) rfl ?c1 ?c2 ?c3 ?_)
                case c1 => have := HE.out.1; unfold maxLen; omega
                case c2 => have := HE.out.1; omega
                case c3 => simp; omega
                intro g' cap w1 ho1 hb1 _
                have HO1 := Lib.hid ho1
                clear ho1
                go_wp2
                refine ⟨⟨k + 3, acc ++ [UInt8.ofNat z], by omega, by go_num, ⟨by have := HE.out.1; simp; omega, ?_⟩, ?_, (hB.alloc (by omega) _).trans hb1⟩, by simp [intOf]; omega⟩
                · rw [HP2.out (by rw [HZ.out]; rintro (h | h | h); exact hno (Or.inl h); exact hno (Or.inr h); exact hbz h), HZ.out]
                · simpa [Lib.byteCells, Hid, Nat.mod_eq_of_lt hz0] using HO1.out
        · have hret : une 0 s.data.toList = .error k := by
            have : une k (s.data.toList.drop k) = .error k := by
              rw [drop_cons s k hlt]
              by_cases hl : k + 3 ≤ s.size
              · rw [drop_cons s (k + 1) (by omega), drop_cons s (k + 2) (by omega), une_long _ _ _ _ _ hc', if_neg]
                intro e
                exact h37 ⟨by rw [e]; rfl, hl⟩
              · exact une_short _ _ _ hc' (by simp; omega)
            rw [HE.out.2, this]; rfl
          have HR := Lib.hid hret
          clear hret
          have hd2 : (!((s[k].toNat : Int) == 37) || decide ((s.size : Int) ≤ (k : Int) + 2)) = true := by
            simp; omega
          go_wp2_with fail
          refine (rbare s[k].toNat (UInt8.toNat_lt _) _).mono ?_
          rintro e w1 ⟨rfl, rfl⟩
          go_wp2_with fail
          all_goals
            go_ret2
            exact ⟨by rw [HR.out]; rfl, hB⟩
    · have hv := conv_own Tryd.underlying77 Tryd.underlying5 Tryd.underlying9 wr HO.out
      go_wp2
      go_ret2
      refine ⟨?_, hB⟩
      have h0 : s.data.toList.drop k = [] := List.drop_eq_nil_of_le (by simp; omega)
      rw [HE.out.2, h0]
      simp [une, Except.map, uneV]

end Go.Proofs.YtdfiblaboddbjaaDoor.Mag
