/-
  MagnetOnly: the law's walk.
-/
import Derived.Test.YtdfiblaboddbjaaGreatDoorMagWan
namespace Go.Proofs.YtdfiblaboddbjaaGreatDoor.Prs
open Go.RowKit Go.Proofs.YtdfiblaboddbjaaGreatDoor.Base Go.Proofs.YtdfiblaboddbjaaGreatDoor.Rep Go.Proofs.YtdfiblaboddbjaaGreatDoor.Mag Go.Proofs.YtdfiblaboddbjaaGreatDoor.Has
set_option linter.unusedVariables false
set_option linter.unusedSimpArgs false

def hasR (file : Int) (r : Int × Int) : Bool := decide (r.1 ≤ file) && decide (file < r.1 + r.2)
def endR (l : List (Int × Int)) : Nat → Int
  | 0 => -1
  | k + 1 => (l.getD k (0, 0)).1 + (l.getD k (0, 0)).2
theorem want_has {l : List (Int × Int)} {file : Int} (hw : whole l) (hl : l ≠ []) : wantB l file = l.any (hasR file) := by
  have key : ∀ r ∈ l, (decide (0 ≤ file) && inR file r) = hasR file r := by
    intro r hr
    obtain ⟨j, hj, rfl⟩ := List.getElem_of_mem hr
    obtain ⟨a, b, c, d⟩ := hw j hj
    unfold inR hasR
    by_cases h1 : l[j].1 ≤ file
    · have h0 : 0 ≤ file := by omega
      have h2 : 0 < l[j].2 := by omega
      by_cases h3 : file < l[j].1 + l[j].2
      · have h4 : file - l[j].2 < l[j].1 := by omega
        simp [h0, h1, h2, h3, h4]
      · have h4 : ¬ file - l[j].2 < l[j].1 := by omega
        simp [h0, h1, h2, h3, h4]
    · simp [h1]
  unfold wantB
  have he : l.isEmpty = false := by cases l with
    | nil => exact absurd rfl hl
    | cons r l => rfl
  rw [he, Bool.false_or]
  clear he hl hw
  induction l with
  | nil => simp
  | cons r l ih =>
    rw [List.any_cons, List.any_cons, ← key r List.mem_cons_self, ← ih fun x hx => key x (List.mem_cons_of_mem _ hx)]
    cases decide (0 ≤ file) <;> simp
theorem endR_lt {l : List (Int × Int)} (hw : whole l) (ha : apartP l) : ∀ k (hk : k < l.length), endR l k < l[k].1
  | 0, hk => by
    obtain ⟨a, _⟩ := hw 0 hk
    show (-1 : Int) < _; omega
  | k + 1, hk => by
    have := ha k hk
    show (l.getD k (0, 0)).1 + (l.getD k (0, 0)).2 < _
    rw [show l.getD k (0, 0) = l[k] from by simp [List.getD, List.getElem?_eq_getElem (show k < l.length by omega)]]
    exact this
theorem any_take {l : List (Int × Int)} {f : Int × Int → Bool} {k : Nat} (hk : k < l.length) : (l.take (k + 1)).any f = ((l.take k).any f || f l[k]) := by
  rw [List.take_succ_eq_append_getElem hk, List.any_append]; simp

set_option maxHeartbeats 16000000 in
set_option maxRecDepth 100000 in
theorem onlyLaw (s : ByteArray) (file : Int) (w : World) (hs : s.size ≤ 1048576) (hf : -9223372036854775808 ≤ file ∧ file ≤ 9223372036854775807) (hG : Ground w) :
    Calls Tryz.prog 5 #[.string s, .int .i64 file] w fun e w' => e = .returned (.bool true) ∧ Below w.heap.size w w' := by
  have htp := text_parse s.data.toList
  have hp : ∀ w', Ground w' → Calls Tryz.prog 8 #[.string s] w' _ := fun w' hg => parse s w' hs hg
  obtain ⟨R, hR⟩ : ∃ R, parseS s.data.toList = R := ⟨_, rfl⟩
  rw [hR] at htp
  simp only [hR] at hp
  clear hR
  obtain ⟨P, pos, er⟩ := R
  simp only at htp hp
  have HP := Lib.hid hp
  have HA := Lib.hid (awake w hG)
  have HG := Lib.hid hG
  have HTP := Lib.hid htp
  clear hp hG htp
  go_enter Tryz.func5, Tryz.ntmps5
  go_wp2_with fail
  refine HA.out.mono ?_
  rintro e w0 ⟨rfl, hb0⟩
  have HB0 := Lib.hid hb0
  have HG0 : Hid (Ground w0) := HG.out.keep hb0
  clear hb0
  go_wp2_with fail
  refine (HP.out w0 HG0.out).mono ?_
  rintro e w1 ⟨⟨tv, pv, ov, mv, rfl, hO⟩, hb1⟩
  have hs1 := hO.store (w1.alloc (.cells Twin.zeroL 29)) w1.heap.size Twin.zeroL rfl (Go.heap_alloc_new _ _)
  have hll : (lcells P.lk tv pv ov mv).length = 37 := lcells_length (X := P.lk) hO.info _ _ _ _
  have hr1 := setRow_new w1 Twin.zeroL 29 (lcells P.lk tv pv ov mv).toArray
  obtain ⟨W1, hW1⟩ : ∃ W1, (w1.alloc (.cells Twin.zeroL 29)).setRow w1.heap.size (lcells P.lk tv pv ov mv).toArray = W1 := ⟨_, rfl⟩
  rw [hW1] at hs1 hr1
  have HL1 : Hid (Lb W1 w1.heap.size 29 P.lk tv pv ov mv) := hr1.1
  have HO1 := Lib.hid (hO.below hr1.2.1)
  have HB1 : Hid (Below w.heap.size w W1) := HB0.out.trans ((hb1.trans (hr1.2.1.mono hb1.size)).mono HB0.out.size)
  have HI : Hid (P.info.length = 32) := hO.info
  have HSL := Lib.hid (sizeLk (X := P.lk) hO.info tv pv ov mv)
  have hzW : w1.heap.size < W1.heap.size := HL1.out.lt
  clear hO hr1 hb1
  go_wp2_with fail
  clear hs1 hll hW1
  refine (numC er _).mono ?_
  rintro e w' ⟨rfl, hw⟩
  obtain rfl := hw.symm
  clear hw
  by_cases hE : er = 0
  case neg =>
    have hE' : (er == 0) = false := by simpa using hE
    clear hE
    go_wp2
    go_ret
    exact ⟨rfl, HB1.out⟩
  subst hE
  have hg := (HTP.out.1 (by first | rfl | trivial)).2.1
  have hwho := hg.who
  have hapt := hg.apt
  have HRR : Hid (RR W1 (fun b => w0.heap.size ≤ b) P.only ov) := (HO1.out.rl (by decide)).only
  have HWD := Lib.hid (wanted (fun b => w0.heap.size ≤ b) P.lk tv pv ov mv file)
  have HWH := Lib.hid hwho
  have HEN := Lib.hid (endR_lt hwho hapt)
  have c35 : W1.cell? ⟨w1.heap.size, 35, none⟩ = some ov := by rw [HL1.out.cell 35]; exact lcells_35 (X := P.lk) HI.out _ _ _ _
  have HC35 := Lib.hid c35
  clear HTP hg hwho hapt c35
  obtain ⟨oa, oc, hov, hn, ⟨hcm, hn20, -⟩, ha⟩ := HRR.out
  subst hov
  have HAT := Lib.hid ha
  obtain ⟨l, hl⟩ : ∃ l, P.only = l := ⟨_, rfl⟩
  have hlk : P.lk.only = l := hl
  rw [hl] at HRR HAT hn hn20 HC35 HWH HEN HL1 HSL HWD HO1
  rw [hlk] at HWD
  have HLK := Lib.hid hl
  clear ha hl hlk
  go_wp2_with fail
  go_loopw [9, 10, 11] (fun v9 v10 v11 wr => ∃ k : Nat, k ≤ l.length ∧ v11 = .int .i64 (k : Int) ∧ v10 = .int .i64 (endR l k) ∧ v9 = .bool ((l.take k).any (hasR file)) ∧ Below W1.heap.size W1 wr) (fun _ _ v11 _ => l.length - (intOf v11).toNat)
  case atStart => exact ⟨0, Nat.zero_le _, rfl, rfl, rfl, Below.refl _ _⟩
  case round =>
    obtain ⟨k, hk, rfl, rfl, rfl, hB⟩ := hrel
    have hwr := hB.size
    have hk0 : (0 : Int) ≤ (k : Int) := by omega
    have c35 := (hB.cell (p := ⟨w1.heap.size, 35, none⟩) hzW).trans HC35.out
    by_cases hlt : k < l.length
    · rcases HAT.out with hz | ⟨B, o, rfl, ha⟩
      · omega
      · obtain ⟨hat, hw1, hw2⟩ := ha k l[k] (by simp [hlt])
        obtain ⟨q1, q2, q3, q4⟩ := HWH.out k hlt
        have q5 := HEN.out k hlt
        have hany := any_take (f := hasR file) hlt
        have hend : endR l (k + 1) = l[k].1 + l[k].2 := by
          show (l.getD k (0, 0)).1 + (l.getD k (0, 0)).2 = _
          simp [List.getD, List.getElem?_eq_getElem hlt]
        obtain ⟨r, hr⟩ : ∃ r, l[k] = r := ⟨_, rfl⟩
        rw [hr] at hat hw1 hw2 q1 q2 q3 q4 q5 hany hend
        obtain ⟨a, b⟩ := r
        simp only at hw1 hw2 q1 q2 q3 q4 q5 hend
        replace hat := hat.keep (Keeps.of_below hB)
        have fx0 := hat.cell 0 rfl
        have fx1 := hat.cell 1 rfl
        simp only [Nat.add_zero] at fx0
        have hk1 : (k : Int) < (l.length : Int) := by omega
        obtain ⟨en, hen⟩ : ∃ en, endR l k = en := ⟨_, rfl⟩
        rw [hen] at q5
        rw [hen]
        obtain ⟨an, han⟩ : ∃ an, (l.take k).any (hasR file) = an := ⟨_, rfl⟩
        rw [han] at hany
        rw [han]
        have HANY := Lib.hid hany
        have HEND := Lib.hid hend
        have hab : wr.alloc (.cells #[.int .i64 a, .int .i64 b] 43) = wr.alloc (.cells #[.int .i64 a, .int .i64 b] 43) := rfl
        have n0 : (wr.alloc (.cells #[.int .i64 a, .int .i64 b] 43)).cell? ⟨wr.heap.size, 0, none⟩ = some (.int .i64 a) := by rw [Lib.cell_of_heap (Go.heap_alloc_new wr _)]; rfl
        have n1 : (wr.alloc (.cells #[.int .i64 a, .int .i64 b] 43)).cell? ⟨wr.heap.size, 1, none⟩ = some (.int .i64 b) := by rw [Lib.cell_of_heap (Go.heap_alloc_new wr _)]; rfl
        have hBn : Below W1.heap.size W1 (wr.alloc (.cells #[.int .i64 a, .int .i64 b] 43)) := hB.alloc hwr _
        have HBN := Lib.hid hBn
        obtain ⟨wo, hwo⟩ : ∃ wo, wr.alloc (.cells #[.int .i64 a, .int .i64 b] 43) = wo := ⟨_, rfl⟩
        rw [hwo] at n0 n1 HBN
        clear ha hat hw1 hw2 hr hany hend hen han hab hBn
        go_wp2_with fail
        go_loop [9, 13] (fun v9 v13 => ∃ j : Int, a ≤ j ∧ j ≤ a + b ∧ v13 = .int .i64 j ∧ v9 = .bool (an || (decide (a ≤ file) && decide (file < j)))) (fun _ v13 => (a + b - intOf v13).toNat)
        case atStart =>
          refine ⟨a, Int.le_refl _, by omega, rfl, ?_⟩
          have : (decide (a ≤ file) && decide (file < a)) = false := by
            by_cases h : a ≤ file
            · have : ¬ file < a := by omega
              simp [this]
            · simp [h]
          rw [this, Bool.or_false]
        case round =>
          obtain ⟨j, hj1, hj2, rfl, rfl⟩ := hrel
          by_cases hj : j < a + b
          · obtain ⟨x, hx⟩ : ∃ x, (an || (decide (a ≤ file) && decide (file < j))) = x := ⟨_, rfl⟩
            have hnx : (an || (decide (a ≤ file) && decide (file < j + 1))) = (x || (j == file)) := by
              rw [← hx]
              by_cases h1 : a ≤ file
              · by_cases h2 : file < j
                · have h3 : file < j + 1 := by omega
                  simp [h1, h2, h3]
                · by_cases h4 : j = file
                  · subst h4
                    have h3 : j < j + 1 := by omega
                    simp [h1, h3]
                  · have h3 : ¬ file < j + 1 := by omega
                    simp [h1, h2, h3, h4]
              · have h4 : ¬ j = file := by omega
                simp [h1, h4]
            have HNX := Lib.hid hnx
            rw [hx]
            clear hnx hx
            cases x
            all_goals
              go_wp2
              go_round
              case rel => exact ⟨j + 1, by omega, by omega, by go_num, by rw [HNX.out]; simp⟩
              case measure => simp [intOf]; omega
          · obtain rfl : j = a + b := by omega
            have HIN : Hid ((an || (decide (a ≤ file) && decide (file < a + b))) = (l.take (k + 1)).any (hasR file)) := by rw [HANY.out]; exact Lib.hid rfl
            go_wp2
            go_roundw
            case rel => exact ⟨k + 1, by omega, by go_num, by rw [HEND.out], by rw [HIN.out], HBN.out⟩
            case measure => simp [intOf]; omega
    · obtain rfl : k = l.length := by omega
      have HW := Lib.hid (HWD.out wr (((HO1.out.below hB).rl (by decide))) hf)
      have HLr : Hid (Lb wr w1.heap.size 29 P.lk tv pv (.slice oa l.length oc) mv) := HL1.out.below hB
      rw [List.take_length]
      obtain ⟨an, han⟩ : ∃ an, l.any (hasR file) = an := ⟨_, rfl⟩
      rw [han]
      have HAN := Lib.hid han
      have HBr : Hid (Below w.heap.size w wr) := HB1.out.trans (hB.mono HB1.out.size)
      clear han
      have hzr : w1.heap.size < wr.heap.size := by omega
      clear hk hk0
      by_cases hn0 : l.length = 0
      · have hl0 : l = [] := List.length_eq_zero_iff.1 hn0
        have HWE : Hid (wantB l file = decide (0 ≤ file)) := by unfold wantB; rw [hl0]; simp [Hid]
        obtain ⟨wb, hwb⟩ : ∃ wb, wantB l file = wb := ⟨_, rfl⟩
        rw [hwb] at HW HWE
        have HC := Lib.hid c35
        have HN := Lib.hid hn0
        clear hwb hl0 hn0
        go_wp2_with (refine wpList_load_row rfl 29 _ rfl w1.heap.size rfl 29 (lcells P.lk tv pv (.slice oa l.length oc) mv).toArray (0, 0) _ HLr.out Tryz.underlying29 rfl HSL.out ?_)
        refine HW.out.mono ?_
        rintro e w5 ⟨rfl, hb5⟩
        clear c35
        have HB5 : Hid (Below w.heap.size w w5) := HBr.out.trans (hb5.mono HBr.out.size)
        have c35 : w5.cell? ⟨w1.heap.size, 35, none⟩ = some (.slice oa l.length oc) := (hb5.cell (p := ⟨w1.heap.size, 35, none⟩) hzr).trans HC.out
        rw [HN.out] at c35
        clear hb5
        by_cases h0 : 0 ≤ file
        · have hwb : wb = true := by rw [HWE.out]; simpa using h0
          subst hwb
          go_wp2
          go_ret
          exact ⟨by simp, HB5.out⟩
        · have hwb : wb = false := by rw [HWE.out]; simpa using h0
          subst hwb
          go_wp2
          go_ret
          exact ⟨by simp <;> omega, HB5.out⟩
      · have hne : l ≠ [] := fun e => hn0 (by rw [e]; rfl)
        have HWE : Hid (wantB l file = an) := by rw [← HAN.out]; exact want_has HWH.out hne
        obtain ⟨wb, hwb⟩ : ∃ wb, wantB l file = wb := ⟨_, rfl⟩
        rw [hwb] at HW HWE
        obtain ⟨n, hn1⟩ : ∃ n, l.length = n := ⟨_, rfl⟩
        rw [hn1] at c35 HLr HSL hn0 HW
        rw [hn1]
        have HC := Lib.hid c35
        have hne' : ((n : Int) == 0) = false := by simp; omega
        have HN := Lib.hid hn1
        have hwe := HWE.out
        subst hwe
        clear hwb hne hn0 hn1
        go_wp2_with (refine wpList_load_row rfl 29 _ rfl w1.heap.size rfl 29 (lcells P.lk tv pv (.slice oa n oc) mv).toArray (0, 0) _ HLr.out Tryz.underlying29 rfl HSL.out ?_)
        refine HW.out.mono ?_
        rintro e w5 ⟨rfl, hb5⟩
        clear c35
        have HB5 : Hid (Below w.heap.size w w5) := HBr.out.trans (hb5.mono HBr.out.size)
        have c35 : w5.cell? ⟨w1.heap.size, 35, none⟩ = some (.slice oa n oc) := (hb5.cell (p := ⟨w1.heap.size, 35, none⟩) hzr).trans HC.out
        clear hb5
        go_wp2
        go_ret
        exact ⟨by simp, HB5.out⟩

end Go.Proofs.YtdfiblaboddbjaaGreatDoor.Prs
