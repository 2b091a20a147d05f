import Derived.Test.YtdfiblaboddbjaaGreatDoorMagEsc
import Derived.Deep.RegionHeld3
import Derived.Lib.Bytealg
import Derived.Deep.QuietTactic
import Derived.BigQuiet
import Derived.IntWalk
namespace Go.Proofs.YtdfiblaboddbjaaGreatDoor.Mag
open Go.RowKit Go.Proofs.YtdfiblaboddbjaaGreatDoor.Base
set_option linter.unusedVariables false
set_option linter.unusedSimpArgs false

def hexL : List UInt8 := [48, 49, 50, 51, 52, 53, 54, 55, 56, 57, 65, 66, 67, 68, 69, 70]
/-- the digit's value, -1: it is none -/
def hexV (c : UInt8) : Int := Lib.indexByte hexL c

/-- what is written so, or the place of the first byte that may not stand there -/
def une (i : Nat) : List UInt8 → Except Nat (List UInt8)
  | [] => .ok []
  | c :: r =>
    if bareB c.toNat then (une (i + 1) r).map (c :: ·)
    else match r with
      | h :: l :: r' => if c = 37 then (if hexV h < 0 ∨ hexV l < 0 ∨ bareB (hexV h * 16 + hexV l).toNat = true then .error i else (une (i + 3) r').map (UInt8.ofNat (hexV h * 16 + hexV l).toNat :: ·)) else .error i
      | _ => .error i

theorem une_bare (i : Nat) (c : UInt8) (r : List UInt8) (h : bareB c.toNat = true) : une i (c :: r) = (une (i + 1) r).map (c :: ·) := by
  match r with
  | [] => simp [une, h]
  | [_] => simp [une, h]
  | _ :: _ :: _ => simp [une, h]
theorem une_short (i : Nat) (c : UInt8) (r : List UInt8) (h : bareB c.toNat = false) (hr : r.length < 2) : une i (c :: r) = .error i := by
  match r, hr with
  | [], _ => simp [une, h]
  | [_], _ => simp [une, h]
theorem une_long (i : Nat) (c x y : UInt8) (r : List UInt8) (h : bareB c.toNat = false) : une i (c :: x :: y :: r) =
    if c = 37 then (if hexV x < 0 ∨ hexV y < 0 ∨ bareB (hexV x * 16 + hexV y).toNat = true then .error i else (une (i + 3) r).map (UInt8.ofNat (hexV x * 16 + hexV y).toNat :: ·)) else .error i := by
  simp [une, h]

def uneV : Except Nat (List UInt8) → Value
  | .ok l => .tuple #[.string ⟨l.toArray⟩, .int .i64 (-1)]
  | .error i => .tuple #[.string ⟨#[]⟩, .int .i64 i]

theorem map_map_ex (e : Except Nat (List UInt8)) (a : List UInt8) (c : UInt8) : (e.map (c :: ·)).map (a ++ ·) = e.map ((a ++ [c]) ++ ·) := by
  cases e <;> simp [Except.map]

theorem hexV_range (c : UInt8) : -1 ≤ hexV c ∧ hexV c < 16 := by
  have : ∀ c : Fin 256, -1 ≤ hexV (UInt8.ofNat c.1) ∧ hexV (UInt8.ofNat c.1) < 16 := by decide +kernel
  have h := this ⟨c.toNat, UInt8.toNat_lt c⟩
  simpa using h

theorem drop_cons (s : ByteArray) (k : Nat) (h : k < s.size) : s.data.toList.drop k = s[k] :: s.data.toList.drop (k + 1) := by
  rw [List.drop_eq_getElem_cons (by simpa using h)]; rfl

theorem or_hex (x y : Nat) (hx : x < 16) (hy : y < 16) : bits BinOp.or IntKind.i64 ((x : Int) * 16) (y : Int) = ((x * 16 + y : Nat) : Int) := by
  have : ∀ x y : Fin 16, bits BinOp.or IntKind.i64 ((x.1 : Int) * 16) (y.1 : Int) = ((x.1 * 16 + y.1 : Nat) : Int) := by decide +kernel
  exact this ⟨x, hx⟩ ⟨y, hy⟩

theorem indexHex (c : UInt8) (w : World) :
    Calls Tryz.prog 42 #[.string ⟨#[48, 49, 50, 51, 52, 53, 54, 55, 56, 57, 65, 66, 67, 68, 69, 70]⟩, .int .u8 (c.toNat : Int)] w fun e w' => e = .returned (.int .i64 (hexV c)) ∧ w' = w := by
  have h := Tryz.strings_IndexByte ⟨#[48, 49, 50, 51, 52, 53, 54, 55, 56, 57, 65, 66, 67, 68, 69, 70]⟩ (c.toNat : Int) w
  simpa [hexV, hexL] using h

set_option maxHeartbeats 2000000 in
set_option maxRecDepth 100000 in
theorem plain (s : ByteArray) (w : World) (hs : s.size ≤ 1099511627776) :
    Calls Tryz.prog 44 #[.string s] w fun e w' => e = .returned (uneV (une 0 s.data.toList)) ∧ Below w.heap.size w w' := by
  go_enter Tryz.func44, Tryz.ntmps44
  go_wp2
  go_loopw [5] (fun v5 wr => ∃ (k : Nat) (acc : List UInt8), k ≤ s.size ∧ v5 = .int .i64 k ∧ Hid (acc.length ≤ k ∧ une 0 s.data.toList = (une k (s.data.toList.drop k)).map (acc ++ ·)) ∧ Hid (Lib.IsBuilder 96 5 w.heap.size w.heap.size (Lib.byteCells acc) wr) ∧ Below w.heap.size w wr) (fun v5 _ => s.size - (intOf v5).toNat)
  case atStart =>
    exact ⟨0, [], Nat.zero_le _, rfl, ⟨by simp, by simp; cases une 0 s.data.toList <;> rfl⟩, isBuilder_new _ _ _, (Below.refl _ _).alloc (Nat.le_refl _) _⟩
  case round =>
    obtain ⟨k, acc, hk, rfl, HE, HB, hB⟩ := hrel
    have hw0 := hB.size
    by_cases hlt : k < s.size
    · have hd0 := run_index_str Tryz.underlying9 s .i64 k hlt
      have hidx := run_index_bare s[k].toNat (UInt8.toNat_lt _)
      by_cases hc : bareB s[k].toNat = true
      · have hc' := hc
        go_wp2_with fail
        go_region_held3 (fun _ => True) (trivial) ((go_at_call 64; refine (bareTable _).mono ?_; rintro e w1 ⟨rfl, hb1⟩))
        all_goals
          clear hidx
          have hb1' := below_of_drew hb1
          have hw1 := hb1'.size
          clear hb1
          go_wp2_with fail
          refine (writeByte w.heap.size w.heap.size _ _ w1 (isBuilder_below HB.out hb1') (by have := HE.out.1; simp only [Lib.byteCells, List.length_map]; omega) (by omega)).mono ?_
          rintro e w2 ⟨rfl, h2, hb2⟩
          have H2 := Lib.hid h2
          clear h2
          go_wp2_with fail
          go_roundw
          case rel =>
            refine ⟨k + 1, acc ++ [s[k]], by omega, by go_num, ⟨by have := HE.out.1; simp; omega, ?_⟩, Or.inr ?_, (hB.trans (hb1'.mono hw0)).trans hb2⟩
            · rw [HE.out.2, drop_cons s k hlt, une_bare _ _ _ hc, map_map_ex]
            · simpa [Lib.byteCells] using H2.out
          case measure => simp [intOf]; omega
      · have hc' : bareB s[k].toNat = false := by simpa using hc
        by_cases h37 : s[k].toNat = 37 ∧ k + 3 ≤ s.size
        · obtain ⟨h37, h3⟩ := h37
          have hx1 := hexV_range s[k + 1]
          have hx2 := hexV_range s[k + 2]
          have hd1 := run_index_str_at Tryz.underlying9 s .i64 ((k : Int) + 1) (k + 1) (by omega) (by omega)
          have hd2 := run_index_str_at Tryz.underlying9 s .i64 ((k : Int) + 2) (k + 2) (by omega) (by omega)
          have hm1 : ((s[k].toNat : Int) != 37) = false := by simp [h37]
          have hpct : (hexV s[k + 1] < 0 ∨ hexV s[k + 2] < 0 ∨ bareB (hexV s[k + 1] * 16 + hexV s[k + 2]).toNat = true) → une 0 s.data.toList = .error k := by
            intro h
            rw [HE.out.2, drop_cons s k hlt, drop_cons s (k + 1) (by omega), drop_cons s (k + 2) (by omega), une_long _ _ _ _ _ hc', if_pos (UInt8.toNat_inj.1 h37), if_pos h]; rfl
          have hpct2 : ¬ (hexV s[k + 1] < 0 ∨ hexV s[k + 2] < 0 ∨ bareB (hexV s[k + 1] * 16 + hexV s[k + 2]).toNat = true) → une 0 s.data.toList = (une (k + 3) (s.data.toList.drop (k + 3))).map ((acc ++ [UInt8.ofNat (hexV s[k + 1] * 16 + hexV s[k + 2]).toNat]) ++ ·) := by
            intro h
            rw [HE.out.2, drop_cons s k hlt, drop_cons s (k + 1) (by omega), drop_cons s (k + 2) (by omega), une_long _ _ _ _ _ hc', if_pos (UInt8.toNat_inj.1 h37), if_neg h, map_map_ex]
          have HP := Lib.hid hpct
          have HP2 := Lib.hid hpct2
          clear h37 hpct hpct2
          go_wp2_with fail
          go_region_held3 (fun _ => True) (trivial) ((go_at_call 64; refine (bareTable _).mono ?_; rintro e w1 ⟨rfl, hb1⟩))
          all_goals
            have hb1' := below_of_drew hb1
            have hw1 := hb1'.size
            clear hb1
            go_wp2_with fail
            have hs1 : IntKind.i64.wrap ((k : Int) + 1) = (k : Int) + 1 := IntWalk.i64_in _ (by omega)
            have hs2 : IntKind.i64.wrap ((k : Int) + 2) = (k : Int) + 2 := IntWalk.i64_in _ (by omega)
            go_quiet ((go_at_call 42; exact Calls.quiet_of_same (indexHex _ _)))
            clear hs1 hs2 hd0 hd1 hd2
            by_cases ha : hexV s[k + 1] < 0
            · have ha1 : decide (hexV s[k + 1] < 0) = true := by simpa using ha
              go_wp2
              go_ret2
              refine ⟨?_, below_N (hB.trans (hb1'.mono hw0)) _⟩
              rw [HP.out (Or.inl ha)]; rfl
            · by_cases hb : hexV s[k + 2] < 0
              · have ha1 : decide (hexV s[k + 1] < 0) = false := by simpa using ha
                have hb2 : decide (hexV s[k + 2] < 0) = true := by simpa using hb
                go_wp2
                go_ret2
                refine ⟨?_, below_N (hB.trans (hb1'.mono hw0)) _⟩
                rw [HP.out (Or.inr (Or.inl hb))]; rfl
              · obtain ⟨x, hx⟩ := Int.eq_ofNat_of_zero_le (Int.not_lt.1 ha)
                obtain ⟨y, hy⟩ := Int.eq_ofNat_of_zero_le (Int.not_lt.1 hb)
                have hxl : x < 16 := by omega
                have hyl : y < 16 := by omega
                rw [hx, hy]
                obtain ⟨z, hz⟩ : ∃ z : Nat, z = x * 16 + y := ⟨_, rfl⟩
                have hz0 : z < 256 := by omega
                have hzz : (hexV s[k + 1] * 16 + hexV s[k + 2]).toNat = z := by rw [hx, hy]; omega
                have hno : ¬ (hexV s[k + 1] < 0 ∨ hexV s[k + 2] < 0) := by omega
                have hor : bits BinOp.or IntKind.i64 ((x : Int) * 16) (y : Int) = (z : Int) := by
                  have := or_hex x y hxl hyl
                  rw [hz]; exact this
                have hix := run_index_bare_k .i64 z hz0
                have HX := Lib.hid hx
                have HY := Lib.hid hy
                have HZ := Lib.hid hzz
                have HZ0 := Lib.hid hz
                clear hx hy ha hb hzz hz
                by_cases hbz : bareB z = true
                · have hbz' := hbz
                  go_wp2_with fail
                  refine (bareTable _).mono ?_
                  rintro e w3 ⟨rfl, hb3⟩
                  go_wp2
                  go_ret2
                  have hsz3 := hb3.size
                  refine ⟨?_, (below_N (hB.trans (hb1'.mono hw0)) _).trans (hb3.mono (by simp; omega))⟩
                  rw [HP.out (Or.inr (Or.inr (by rw [HZ.out]; exact hbz)))]; rfl
                · have hbz' : bareB z = false := by simpa using hbz
                  have hwz : IntKind.u8.wrap (z : Int) = (z : Int) := by simp [IntKind.wrap, IntKind.bits, IntKind.signed]; omega
                  go_wp2_with fail
                  refine (bareTable _).mono ?_
                  rintro e w3 ⟨rfl, hb3⟩
                  have hsz3 := hb3.size
                  go_wp2_with fail
                  refine (writeByte w.heap.size w.heap.size (Lib.byteCells acc) _ w3 (isBuilder_below (isBuilder_below HB.out hb1') (below_of_N hb3)) (by have := HE.out.1; simp only [Lib.byteCells, List.length_map]; omega) (by simp at hsz3; omega)).mono ?_
                  rintro e w4 ⟨rfl, h4, hb4⟩
                  have H4 := Lib.hid h4
                  clear h4
                  go_wp2_with fail
                  refine ⟨⟨k + 3, acc ++ [UInt8.ofNat z], by omega, by go_num, ⟨by have := HE.out.1; simp; omega, ?_⟩, Or.inr ?_, ((hB.trans (hb1'.mono hw0)).trans ((below_of_N hb3).mono (by omega))).trans hb4⟩, by simp [intOf]; omega⟩
                  · rw [HP2.out (by rw [HZ.out]; rintro (h | h | h); exact hno (Or.inl h); exact hno (Or.inr h); exact hbz h), HZ.out]
                  · have := H4.out
                    simpa [Lib.byteCells, Nat.mod_eq_of_lt hz0] using this
        · have hret : une 0 s.data.toList = .error k := by
            have : une k (s.data.toList.drop k) = .error k := by
              rw [drop_cons s k hlt]
              by_cases hl : k + 3 ≤ s.size
              · rw [drop_cons s (k + 1) (by omega), drop_cons s (k + 2) (by omega), une_long _ _ _ _ _ hc', if_neg]
                intro e
                exact h37 ⟨by rw [e]; rfl, hl⟩
              · exact une_short _ _ _ hc' (by simp; omega)
            rw [HE.out.2, this]; rfl
          have HR := Lib.hid hret
          clear hret
          have hd2 : (!((s[k].toNat : Int) == 37) || decide ((s.size : Int) - (k : Int) < 3)) = true := by
            simp; omega
          go_wp2_with fail
          go_region_held3 (fun _ => True) (trivial) ((go_at_call 64; refine (bareTable _).mono ?_; rintro e w1 ⟨rfl, hb1⟩))
          all_goals
            clear hidx
            go_wp2_with fail
            all_goals
              go_ret2
              exact ⟨by rw [HR.out]; rfl, hB.trans ((below_of_drew hb1).mono hw0)⟩
    · go_wp2_with fail
      refine (Tryz.Builder_String_any w.heap.size w.heap.size acc _ HB.out hw0).mono ?_
      rintro e w1 ⟨rfl, hb1⟩
      go_wp2_with fail
      go_ret2
      refine ⟨?_, hB.trans hb1⟩
      have h0 : s.data.toList.drop k = [] := List.drop_eq_nil_of_le (by simp; omega)
      rw [HE.out.2, h0]
      simp [une, Except.map, uneV]

end Go.Proofs.YtdfiblaboddbjaaGreatDoor.Mag
