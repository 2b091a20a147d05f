import Derived.Test.YtdfiblaboddbjaaGreatDoorMagTxt
namespace Go.Proofs.YtdfiblaboddbjaaGreatDoor.Has
open Go.RowKit Go.Proofs.YtdfiblaboddbjaaGreatDoor.Base Go.Proofs.YtdfiblaboddbjaaGreatDoor.Rep Go.Proofs.YtdfiblaboddbjaaGreatDoor.Mag
set_option linter.unusedVariables false
set_option linter.unusedSimpArgs false

theorem own_strs {w : World} {B e n : Nat} {v : Value} {xs : List Value} (h : w.ownsRow B e 1 v n xs) (h0 : 0 < n) :
    ∃ g cap, v = .slice (some ⟨g, 0, none⟩) n cap ∧ n ≤ cap ∧ cap ≤ maxLen ∧ g < w.heap.size ∧ ∀ (j : Nat) (u : Value), xs[j]? = some u → w.cell? ⟨g, 0 + j, none⟩ = some u := by
  obtain ⟨hl, h⟩ := h
  rcases h with ⟨rfl, hn⟩ | ⟨g, cap, cur, rfl, hB, hg, hn, hc, hz, hx⟩
  · omega
  · refine ⟨g, cap, rfl, hn, hc, (Array.getElem?_eq_some_iff.1 hg).1, fun j u hj => ?_⟩
    have hlt : j < xs.length := by
      rcases Nat.lt_or_ge j xs.length with h' | h'
      · exact h'
      · rw [List.getElem?_eq_none h'] at hj; cases hj
    have h2 : (cur.toList.take (n * 1))[j]? = cur[j]? := by rw [List.getElem?_take_of_lt (by omega)]; simp
    rw [hx, hj] at h2
    simp only [World.cell?, hg]
    simp only [Nat.zero_add]
    rw [← h2]
    simp

theorem soK_join (x : Int × Int) (r : List (Int × Int)) : ∀ k, k ≤ r.length → soK (x :: r) (k + 1) = [38, 115, 111, 61] ++ (numR x ++ Lib.joinTail [44] ((r.map numR).take k))
  | 0, _ => by simp [soK, Lib.joinTail]
  | k + 1, h => by
    rw [soK, soK_join x r k (by omega), Lib.joinTail_take_succ [44] (r.map numR) k (numR (r[k]'(by omega))) (by simp [show k < r.length by omega])]
    simp [List.getD, show k < r.length by omega]
theorem soL_join (l : List (Int × Int)) (h : 0 < l.length) : soK l l.length = [38, 115, 111, 61] ++ Lib.join (l.map numR) [44] := by
  cases l with
  | nil => simp at h
  | cons x r =>
    rw [List.length_cons, soK_join x r r.length (Nat.le_refl _), List.map_cons, Lib.join_cons]
    rw [List.take_of_length_le (by simp)]

theorem infoStr : (Tryz.prog.info? 9).map (fun i => (i.zero, i.size, i.bytes)) = some (some (.string .empty), 1, 16) := by kernel_rfl

def piece (r : Int × Int) : Value := .string ⟨(numR r).toArray⟩

set_option maxHeartbeats 2000000 in
set_option maxRecDepth 100000 in
theorem written (ok : Nat → Prop) (X : Lk) (tv pv ov mv : Value) (w : World) (hX : RL w ok X tv pv ov mv) (hwh : whole X.only) (hpt : PT w) :
    Calls Tryz.prog 33 #[.agg (lcells X tv pv ov mv).toArray] w fun e w' => e = .returned (.string ⟨(textL X).toArray⟩) ∧ Below w.heap.size w w' := by
  have hi := hX.info
  have hB0 : Below w.heap.size w ((w.alloc (.cells (lcells X tv pv ov mv).toArray 29)).alloc (.cells #[.pointer none, .slice none 0 0] 96)) := ((Below.refl _ _).alloc (Nat.le_refl _) _).alloc (by simp) _
  have hA : Lb ((w.alloc (.cells (lcells X tv pv ov mv).toArray 29)).alloc (.cells #[.pointer none, .slice none 0 0] 96)) w.heap.size 29 X tv pv ov mv := heap_alloc2_old w _ _
  have hBd : Lib.IsBuilder 96 5 (w.heap.size + 1) (w.heap.size + 1) (Lib.byteCells []) ((w.alloc (.cells (lcells X tv pv ov mv).toArray 29)).alloc (.cells #[.pointer none, .slice none 0 0] 96)) :=
    Or.inl ⟨Nat.le_refl _, .slice none 0 0, heap_alloc2_new w _ _, ⟨rfl, Or.inl ⟨rfl, rfl⟩⟩, by simp [Value.ownBlock]⟩
  obtain ⟨W0, hW0⟩ : ∃ W0, (w.alloc (.cells (lcells X tv pv ov mv).toArray 29)).alloc (.cells #[.pointer none, .slice none 0 0] 96) = W0 := ⟨_, rfl⟩
  have hsz0 : W0.heap.size = w.heap.size + 2 := by rw [← hW0]; simp
  rw [hW0] at hB0 hA hBd
  have HA := Lib.hid hA
  have HBD := Lib.hid hBd
  have HI := Lib.hid hi
  have HX := Lib.hid hX
  have HPT := Lib.hid hpt
  have HWH := Lib.hid hwh
  obtain ⟨a, c, rfl, hn, ⟨hcm, hn20, -⟩, ha⟩ := hX.only
  have HOO := Lib.hid ha
  have hM1 := RS.small hX.trackers
  have hM2 := RS.small hX.peers
  obtain ⟨a1, c1, rfl, hn1, hcm1, h201, hs1⟩ := SS.of hX.trackers
  obtain ⟨a2, c2, rfl, hn2, hcm2, h202, hs2⟩ := SS.of hX.peers
  obtain ⟨a3, c3, rfl, hn3, ⟨hcm3, h203, -⟩, ha3⟩ := hX.more
  have HS1 := Lib.hid hs1
  have HS2 := Lib.hid hs2
  have HM1 := Lib.hid hM1
  have HM2 := Lib.hid hM2
  have HPP := Lib.hid ha3
  have HMP : Hid (∀ j, j < X.xn → (X.xk j).size ≤ 1048576 ∧ (textV (X.xv j)).size ≤ 1048576) := by
    intro j hj
    rcases ha3 with h0 | ⟨B, o, rfl, ha⟩
    · omega
    · obtain ⟨cs, _, hz, hrv⟩ := ha j hj
      refine ⟨hz, ?_⟩
      cases hx : X.xv j with
      | leaf => rw [hx] at hrv; exact (hrv : False).elim
      | mk kd i t n l m dk dv =>
        rw [hx] at hrv
        obtain ⟨_, _, _, hts, _⟩ := hrv
        exact hts
  have hcl : ∀ j (h : j < X.info.length), W0.cell? ⟨w.heap.size, 0 + j, none⟩ = some (.int .u8 X.info[j].toNat) := fun j h => by
    have := HA.out.info HI.out j (.int .u8 X.info[j].toNat) (by simp [h])
    exact this
  have HCL := Lib.hid hcl
  clear ha ha3 hs1 hs2 hM1 hM2 hcl
  clear hA hi hpt hwh hBd
  go_enter Tryz.func33, Tryz.ntmps33
  go_wp2_with fail
  have hd := digHex X.info w.heap.size 0 32 W0 HCL.out HA.out.lt (by rw [HI.out]; decide) (by rw [HI.out]; decide) (by unfold maxLen; decide)
  rw [HI.out] at hd
  refine hd.mono ?_
  clear hd
  rintro e w1 ⟨rfl, hb1⟩
  have HA1 := Lib.hid (HA.out.below hb1)
  have HBD1 := Lib.hid (isBuilder_below HBD.out hb1)
  have hB1 : Below w.heap.size w w1 := hB0.trans (hb1.mono (by omega))
  have hsz1 : w.heap.size + 2 ≤ w1.heap.size := by have := hb1.size; omega
  have hlh : (hxL X.info).length = 64 := by rw [hxL_len, HI.out]
  clear hb1 hB0
  go_wp2_with fail
  refine (writeString (w.heap.size + 1) (w.heap.size + 1) [] _ w1 HBD1.out ?hs (by omega)).mono ?_
  case hs => simp [ByteArray.size, hlh]
  rintro e w2 ⟨rfl, hbd2, hb2⟩
  have HBD2 : Hid (Lib.IsBuilder 96 5 (w.heap.size + 1) (w.heap.size + 1) (Lib.byteCells (baseL X)) w2) := by
    refine Lib.hid ?_
    simpa [baseL] using hbd2
  have HA2 : Hid (Lb w2 w.heap.size 29 X (.slice a1 X.trackers.length c1) (.slice a2 X.peers.length c2) (.slice a X.only.length c) (.slice a3 X.xn c3)) := (hb2.block w.heap.size (by omega)).trans HA1.out
  have hB2 : Below w.heap.size w w2 := hB1.trans (hb2.mono (by omega))
  have hsz2 : w.heap.size + 2 ≤ w2.heap.size := by have := hb2.size; omega
  clear hbd2 hb2 hlh
  have c32 := HA2.out.cell 32
  rw [lcells_32 HI.out] at c32
  go_upto_if 23 with (fail)
  go_cut [] (fun wx => Below w.heap.size w wx ∧ w.heap.size + 2 ≤ wx.heap.size ∧ Hid (Lb wx w.heap.size 29 X (.slice a1 X.trackers.length c1) (.slice a2 X.peers.length c2) (.slice a X.only.length c) (.slice a3 X.xn c3)) ∧ Hid (Lib.IsBuilder 96 5 (w.heap.size + 1) (w.heap.size + 1) (Lib.byteCells (nameL X)) wx))
  case first =>
    have hns := HX.out.name
    have hnd : X.name.data.toList.length = X.name.size := by simp
    have hel := escL_len X.name.data.toList
    have hbl : (baseL X).length = 88 := by simp [baseL, hxL_len, HI.out]
    go_wp2_with fail
    · have hb : (!X.name.toList.isEmpty) = true := by assumption
      have hn : ¬ X.name = ⟨#[]⟩ := fun h => by rw [isEmpty_str, decide_eq_true h] at hb; cases hb
      have HN := Lib.hid hn
      clear hn hb
      refine (escape X.name _ (by omega)).mono ?_
      rintro e w3 ⟨rfl, hb3⟩
      have HA3 := Lib.hid (HA2.out.below hb3)
      have HBD3 := Lib.hid (isBuilder_below HBD2.out hb3)
      have hB3 : Below w.heap.size w w3 := hB2.trans (hb3.mono (by omega))
      have hsz3 : w.heap.size + 2 ≤ w3.heap.size := by have := hb3.size; omega
      clear hb3
      go_wp2_with fail
      refine (putPair (w.heap.size + 1) (w.heap.size + 1) (baseL X) _ _ w3 HBD3.out ?hs (by omega)).mono ?_
      case hs => simp [ByteArray.size]; omega
      rintro e w4 ⟨rfl, hbd4, hb4⟩
      have HBD4 : Hid (Lib.IsBuilder 96 5 (w.heap.size + 1) (w.heap.size + 1) (Lib.byteCells (nameL X)) w4) := by
        refine Lib.hid ?_
        simpa [nameL, HN.out] using hbd4
      have HA4 : Hid (Lb w4 w.heap.size 29 X (.slice a1 X.trackers.length c1) (.slice a2 X.peers.length c2) (.slice a X.only.length c) (.slice a3 X.xn c3)) := (hb4.block w.heap.size (by omega)).trans HA3.out
      have hB4 : Below w.heap.size w w4 := hB3.trans (hb4.mono (by omega))
      have hsz4 : w.heap.size + 2 ≤ w4.heap.size := by have := hb4.size; omega
      clear hbd4 hb4
      go_wp2_with fail
      go_meet
      exact ⟨hB4, hsz4, HA4, HBD4⟩
    · have hb : (!X.name.toList.isEmpty) = false := by assumption
      have hn : X.name = ⟨#[]⟩ := by
        rw [isEmpty_str] at hb
        simpa using hb
      go_meet
      exact ⟨hB2, hsz2, HA2, by simpa [nameL, hn, Hid] using HBD2.out⟩
  case rest =>
    obtain ⟨hB, hsz, HA, HBD⟩ := hcut
    clear c32
    have c35 := HA.out.cell 35
    rw [lcells_35 HI.out] at c35
    go_upto_if 32 with (fail)
    go_cut [] (fun wx => Below w.heap.size w wx ∧ w.heap.size + 2 ≤ wx.heap.size ∧ Hid (Lb wx w.heap.size 29 X (.slice a1 X.trackers.length c1) (.slice a2 X.peers.length c2) (.slice a X.only.length c) (.slice a3 X.xn c3)) ∧ Hid (Lib.IsBuilder 96 5 (w.heap.size + 1) (w.heap.size + 1) (Lib.byteCells (soL X)) wx))
    case first =>
      by_cases hz : 0 < X.only.length
      · have hBc := hB
        have hszc := hsz
        have HAc := HA
        have HBDc := HBD
        have hdz : decide (0 < X.only.length) = true := decide_eq_true hz
        rw [hdz]
        clear hdz
        go_wp2_with fail
        go_loopw [5, 36] (fun v5 v6 wr => ∃ k : Nat, k ≤ X.only.length ∧ v6 = .int .i64 k ∧ Below wc.heap.size wc wr ∧ Hid (wr.ownsRow wc.heap.size 9 1 v5 k ((X.only.take k).map piece))) (fun _ v6 _ => X.only.length - (intOf v6).toNat)
        case atStart => exact ⟨0, Nat.zero_le _, rfl, Below.refl _ _, ⟨rfl, Or.inl ⟨rfl, rfl⟩⟩⟩
        case round =>
        obtain ⟨k, hk, rfl, hBr, HO⟩ := hrel
        have hwcr := hBr.size
        have hBw : Below w.heap.size w wr := hBc.trans (hBr.mono (by omega))
        have hwr := hBw.size
        have hk0 : (0 : Int) ≤ (k : Int) := by omega
        by_cases hlt : k < X.only.length
        · rcases HOO.out with h0 | ⟨B, o, rfl, ha⟩
          · omega
          have hcl := (ha k X.only[k] (by simp [hlt])).1.keep (Keeps.of_below hBw)
          have x0 := hcl.cell 0 rfl
          have x1 := hcl.cell 1 rfl
          simp only [Nat.add_zero] at x0 x1
          have hk1 : (k : Int) < (X.only.length : Int) := by omega
          obtain ⟨p, hp⟩ : ∃ p, X.only[k].1 = p := ⟨_, rfl⟩
          obtain ⟨q, hq⟩ : ∃ q, X.only[k].2 = q := ⟨_, rfl⟩
          have hwk := HWH.out k hlt
          rw [hp, hq] at hwk
          obtain ⟨g1, g2, g3, g4⟩ := hwk
          rw [hp] at x0
          rw [hq] at x1
          have hpq : Hid (X.only[k] = (p, q)) := by
            refine Lib.hid ?_
            rw [← hp, ← hq]
          have hi1 := Lib.itoa_length_le p (by omega) (by omega)
          have hi2 := Lib.itoa_length_le (p + q - 1) (by omega) (by omega)
          clear ha hcl hp hq
          by_cases hbig : 1 < q
          · have hpt1 : PT (wr.alloc (.cells #[.int .i64 p, .int .i64 q] 43)) := HPT.out.keep (hBw.alloc hwr _)
            go_wp2_with fail
            refine (itoaC p (by omega) (by omega) _ hpt1).mono ?_
            rintro e w1 ⟨rfl, hb1⟩
            have hr0 : w1.cell? ⟨wr.heap.size, 0, none⟩ = some (.int .i64 p) := (hb1.cell (p := ⟨wr.heap.size, 0, none⟩) (by simp)).trans (by simp [World.cell?_alloc_new])
            have hr1 : w1.cell? ⟨wr.heap.size, 1, none⟩ = some (.int .i64 q) := (hb1.cell (p := ⟨wr.heap.size, 1, none⟩) (by simp)).trans (by simp [World.cell?_alloc_new])
            have hb1' : Below wr.heap.size wr w1 := ((Below.refl _ _).alloc (Nat.le_refl _) _).trans (hb1.mono (by simp))
            clear hb1 hpt1
            have hpt2 : PT w1 := HPT.out.keep (hBw.trans (hb1'.mono hwr))
            go_wp2_with fail
            refine (itoaC (p + q - 1) (by omega) (by omega) _ hpt2).mono ?_
            rintro e w2 ⟨rfl, hb2⟩
            have hb2' : Below wr.heap.size wr w2 := hb1'.trans (hb2.mono hb1'.size)
            clear hb2 hpt2 hr0 hr1
            have HO2 := Lib.hid (ownsRow_below HO.out hb2')
            have hB2 : Below wc.heap.size wc w2 := hBr.trans (hb2'.mono hwcr)
            have hsz2 := hB2.size
            have hm1 : k + 1 ≤ maxLen := by unfold maxLen; omega
            go_wp2_with (at_builtin; refine wpList_app1 rfl _ _ 25 rfl wc.heap.size 9 (.string .empty) 16 infoStr rfl Tryz.underlying25 _ _ _ rfl (HO2.out.alloc _) w2.heap.size _ rfl (by simp; rfl) rfl hm1 (by omega) (by simp; omega) ?_)
            intro g' cap w3 ho3 hb3 _
            have HO3 := Lib.hid ho3
            have hB3 : Below wc.heap.size wc w3 := (hB2.alloc hsz2 _).trans hb3
            clear ho3 hb3
            go_wp2
            refine ⟨⟨k + 1, by omega, by go_num, hB3, Lib.hid ?_⟩, by simp [intOf]; omega⟩
            rw [ltake_snoc X.only k hlt, List.map_append]
            have h3 := HO3.out
            have hpk : Value.string (⟨(Lib.itoa p).toArray⟩ ++ (⟨#[45]⟩ ++ ⟨(Lib.itoa (p + q - 1)).toArray⟩)) = piece X.only[k] := by
              unfold piece numR
              rw [hpq.out]
              simp only [if_pos hbig]
              congr 1
            rw [hpk] at h3
            rw [List.map_take]
            exact h3
          · have hpt1 : PT (wr.alloc (.cells #[.int .i64 p, .int .i64 q] 43)) := HPT.out.keep (hBw.alloc hwr _)
            go_wp2_with fail
            refine (itoaC p (by omega) (by omega) _ hpt1).mono ?_
            rintro e w2 ⟨rfl, hb1⟩
            have hr1 : w2.cell? ⟨wr.heap.size, 1, none⟩ = some (.int .i64 q) := (hb1.cell (p := ⟨wr.heap.size, 1, none⟩) (by simp)).trans (by simp [World.cell?_alloc_new])
            have hb2' : Below wr.heap.size wr w2 := ((Below.refl _ _).alloc (Nat.le_refl _) _).trans (hb1.mono (by simp))
            clear hb1 hpt1
            have HO2 := Lib.hid (ownsRow_below HO.out hb2')
            have hB2 : Below wc.heap.size wc w2 := hBr.trans (hb2'.mono hwcr)
            have hsz2 := hB2.size
            have hm1 : k + 1 ≤ maxLen := by unfold maxLen; omega
            go_wp2_with (at_builtin; refine wpList_app1 rfl _ _ 25 rfl wc.heap.size 9 (.string .empty) 16 infoStr rfl Tryz.underlying25 _ _ _ rfl (HO2.out.alloc _) w2.heap.size _ rfl (by simp; rfl) rfl hm1 (by omega) (by simp; omega) ?_)
            intro g' cap w3 ho3 hb3 _
            have HO3 := Lib.hid ho3
            have hB3 : Below wc.heap.size wc w3 := (hB2.alloc hsz2 _).trans hb3
            clear ho3 hb3
            go_wp2
            refine ⟨⟨k + 1, by omega, by go_num, hB3, Lib.hid ?_⟩, by simp [intOf]; omega⟩
            rw [ltake_snoc X.only k hlt, List.map_append]
            have := HO3.out
            have hpk : piece X.only[k] = Value.string ⟨(Lib.itoa p).toArray⟩ := by
              unfold piece numR
              rw [hpq.out]
              simp [hbig]
            simpa [hpk] using this
        · obtain rfl : k = X.only.length := by omega
          obtain ⟨g, cap, rfl, hgc, hgm, hgl, hcells⟩ := own_strs HO.out hz
          have HCC := Lib.hid hcells
          have hHB := HBDc.out
          have HBDr : Hid (Lib.IsBuilder 96 5 (w.heap.size + 1) (w.heap.size + 1) (Lib.byteCells (nameL X)) wr) := isBuilder_below HBDc.out hBr
          have HAr : Hid (Lb wr w.heap.size 29 X (.slice a1 X.trackers.length c1) (.slice a2 X.peers.length c2) (.slice a X.only.length c) (.slice a3 X.xn c3)) := HAc.out.below hBr
          have hsj := soL_join X.only hz
          have hsl := soK_len X.only HWH.out X.only.length (Nat.le_refl _)
          rw [hsj] at hsl
          have hjl : (Lib.join (X.only.map numR) [44]).length ≤ 67108864 := by
            rw [List.length_append] at hsl; omega
          have HSJ := Lib.hid hsj
          clear hcells hsj hsl hHB
          go_wp2_with fail
          have hj := Tryz.strings_Join g 0 cap (X.only.map fun r => ⟨(numR r).toArray⟩) ⟨#[44]⟩ wr (fun j x hx => by
              refine HCC.out j _ ?_
              rw [List.take_of_length_le (Nat.le_refl _)]
              rw [List.getElem?_map] at hx ⊢
              cases hu : X.only[j]? with
              | none => rw [hu] at hx; simp at hx
              | some u => rw [hu] at hx; simp at hx; subst hx; rfl) hgl (by simp; omega) (by simpa using hgc) (by simpa [Function.comp_def] using Nat.le_trans hjl (by decide))
          have hcomp : ((fun x : ByteArray => x.data.toList) ∘ fun r : Int × Int => (⟨(numR r).toArray⟩ : ByteArray)) = numR := by funext r; simp
          simp only [List.length_map, List.map_map, hcomp, List.toList_toArray] at hj
          obtain ⟨JL, hJL⟩ : ∃ JL, Lib.join (X.only.map numR) [44] = JL := ⟨_, rfl⟩
          rw [hJL] at hj hjl
          have HJL := Lib.hid hJL
          have hjz : (⟨JL.toArray⟩ : ByteArray).size = JL.length := by simp [ByteArray.size]
          clear hcomp hJL
          refine hj.mono ?_
          clear hj
          rintro e w3 ⟨rfl, hb3⟩
          have HA3 := Lib.hid (HAr.out.below hb3)
          have HBD3 := Lib.hid (isBuilder_below HBDr.out hb3)
          have hB3 : Below w.heap.size w w3 := hBw.trans (hb3.mono (by omega))
          have hsz3 : w.heap.size + 2 ≤ w3.heap.size := by have := hb3.size; omega
          have hnl := nameL_len X HI.out HX.out.name
          clear hb3
          go_wp2_with fail
          refine (putPair (w.heap.size + 1) (w.heap.size + 1) (nameL X) _ _ w3 HBD3.out ?hs (by omega)).mono ?_
          case hs => rw [hjz]; have : (⟨#[115, 111]⟩ : ByteArray).size = 2 := rfl; omega
          rintro e w4 ⟨rfl, hbd4, hb4⟩
          have HBD4 : Hid (Lib.IsBuilder 96 5 (w.heap.size + 1) (w.heap.size + 1) (Lib.byteCells (soL X)) w4) := by
            refine Lib.hid ?_
            rw [soL, HSJ.out, HJL.out]
            simpa using hbd4
          have HA4 : Hid (Lb w4 w.heap.size 29 X (.slice a1 X.trackers.length c1) (.slice a2 X.peers.length c2) (.slice a X.only.length c) (.slice a3 X.xn c3)) := (hb4.block w.heap.size (by omega)).trans HA3.out
          have hB4 : Below w.heap.size w w4 := hB3.trans (hb4.mono (by omega))
          have hsz4 : w.heap.size + 2 ≤ w4.heap.size := by have := hb4.size; omega
          clear hbd4 hb4
          go_wp2_with fail
          go_meet
          exact ⟨hB4, hsz4, HA4, HBD4⟩
      · have hz0 : X.only.length = 0 := by omega
        have hso : soL X = nameL X := by unfold soL; rw [hz0]; simp [soK]
        go_wp2
        go_meet
        exact ⟨hB, hsz, HA, by rw [hso]; exact HBD⟩
    case rest =>
      obtain ⟨hB, hsz, HA, HBD⟩ := hcut
      clear c35
      have c33 := HA.out.cell 33
      rw [lcells_33 HI.out] at c33
      go_wp2_with fail
      clear c33
      have hB01 := hB
      have hsz01 := hsz
      have HA01 := HA
      have HBD01 := HBD
      go_loopw [68] (fun v6 wr => ∃ (k : Nat), k ≤ X.trackers.length ∧ v6 = .int .i64 k ∧ Below w.heap.size w wr ∧ w.heap.size + 2 ≤ wr.heap.size ∧ Hid (Lb wr w.heap.size 29 X (.slice a1 X.trackers.length c1) (.slice a2 X.peers.length c2) (.slice a X.only.length c) (.slice a3 X.xn c3)) ∧ Hid (Lib.IsBuilder 96 5 (w.heap.size + 1) (w.heap.size + 1) (Lib.byteCells (soL X ++ trK X.trackers k)) wr)) (fun v6 _ => X.trackers.length - (intOf v6).toNat)
      case atStart => exact ⟨0, Nat.zero_le _, rfl, hB01, hsz01, HA01, by simpa [trK, Hid] using HBD01.out⟩
      case round =>
        obtain ⟨k, hk, rfl, hB, hsz, HA, HBD⟩ := hrel
        have hk0 : (0 : Int) ≤ (k : Int) := by omega
        by_cases hlt : k < X.trackers.length
        · obtain ⟨B, o, rfl, hcc⟩ := HS1.out k X.trackers[k] (by simp [hlt])
          have hBl : B < w.heap.size := World.block_lt_of_cell? w _ hcc
          have x0 : wr.cell? ⟨B, o + k, none⟩ = some (.string X.trackers[k]) := (hB.cell (p := ⟨B, o + k, none⟩) hBl).trans hcc
          have hk1 : (k : Int) < (X.trackers.length : Int) := by omega
          have hes := HM1.out k X.trackers[k] (by simp [hlt])
          have hel := escL_len X.trackers[k].data.toList
          have hnd : X.trackers[k].data.toList.length = X.trackers[k].size := by simp
          have hpl : (soL X ++ trK X.trackers k).length ≤ 17592186044416 := by
            have h1 := soL_len X HI.out HX.out.name HWH.out hn20
            have h2 := trK_len X.trackers HM1.out k hk
            rw [List.length_append]; omega
          clear hcc hBl
          go_wp2_with fail
          refine (escape X.trackers[k] _ (by omega)).mono ?_
          rintro e w1 ⟨rfl, hb1⟩
          have HA1 := Lib.hid (HA.out.below hb1)
          have HBD1 := Lib.hid (isBuilder_below HBD.out hb1)
          have hB1 : Below w.heap.size w w1 := hB.trans (hb1.mono (by omega))
          have hsz1 : w.heap.size + 2 ≤ w1.heap.size := by have := hb1.size; omega
          clear hb1 x0
          go_wp2_with fail
          refine (putPair (w.heap.size + 1) (w.heap.size + 1) _ _ _ w1 HBD1.out ?hs (by omega)).mono ?_
          case hs => simp [ByteArray.size] at hpl ⊢; omega
          rintro e w2 ⟨rfl, hbd2, hb2⟩
          have HBD2 : Hid (Lib.IsBuilder 96 5 (w.heap.size + 1) (w.heap.size + 1) (Lib.byteCells (soL X ++ trK X.trackers (k + 1))) w2) := by
            refine Lib.hid ?_
            rw [trK_succ _ k hlt]
            simpa using hbd2
          have HA2 := Lib.hid (show Lb w2 w.heap.size 29 X _ _ _ _ from (hb2.block w.heap.size (by omega)).trans HA1.out)
          have hB2 : Below w.heap.size w w2 := hB1.trans (hb2.mono (by omega))
          have hsz2 : w.heap.size + 2 ≤ w2.heap.size := by have := hb2.size; omega
          clear hbd2 hb2
          go_wp2
          exact ⟨⟨k + 1, by omega, by go_num, hB2, hsz2, HA2, HBD2⟩, by simp [intOf]; omega⟩
        · obtain rfl : k = X.trackers.length := by omega
          have HBD : Hid (Lib.IsBuilder 96 5 (w.heap.size + 1) (w.heap.size + 1) (Lib.byteCells (trL X)) wr) := HBD
          have c34 := HA.out.cell 34
          rw [lcells_34 HI.out] at c34
          go_wp2_with fail
          clear c34
          have hB02 := hB
          have hsz02 := hsz
          have HA02 := HA
          have HBD02 := HBD
          go_loopw [80] (fun v6 wr => ∃ (k : Nat), k ≤ X.peers.length ∧ v6 = .int .i64 k ∧ Below w.heap.size w wr ∧ w.heap.size + 2 ≤ wr.heap.size ∧ Hid (Lb wr w.heap.size 29 X (.slice a1 X.trackers.length c1) (.slice a2 X.peers.length c2) (.slice a X.only.length c) (.slice a3 X.xn c3)) ∧ Hid (Lib.IsBuilder 96 5 (w.heap.size + 1) (w.heap.size + 1) (Lib.byteCells (trL X ++ peK X.peers k)) wr)) (fun v6 _ => X.peers.length - (intOf v6).toNat)
          case atStart => exact ⟨0, Nat.zero_le _, rfl, hB02, hsz02, HA02, by simpa [peK, Hid] using HBD02.out⟩
          case round =>
            obtain ⟨k, hk, rfl, hB, hsz, HA, HBD⟩ := hrel
            have hk0 : (0 : Int) ≤ (k : Int) := by omega
            by_cases hlt : k < X.peers.length
            · obtain ⟨B, o, rfl, hcc⟩ := HS2.out k X.peers[k] (by simp [hlt])
              have hBl : B < w.heap.size := World.block_lt_of_cell? w _ hcc
              have x0 : wr.cell? ⟨B, o + k, none⟩ = some (.string X.peers[k]) := (hB.cell (p := ⟨B, o + k, none⟩) hBl).trans hcc
              have hk1 : (k : Int) < (X.peers.length : Int) := by omega
              have hes := HM2.out k X.peers[k] (by simp [hlt])
              have hel := escL_len X.peers[k].data.toList
              have hnd : X.peers[k].data.toList.length = X.peers[k].size := by simp
              have hpl : (trL X ++ peK X.peers k).length ≤ 17592186044416 := by
                have h1 := trL_len X HI.out HX.out.name HWH.out hn20 h201 HM1.out
                have h2 := peK_len X.peers HM2.out k hk
                rw [List.length_append]; omega
              clear hcc hBl
              go_wp2_with fail
              refine (escape X.peers[k] _ (by omega)).mono ?_
              rintro e w1 ⟨rfl, hb1⟩
              have HA1 := Lib.hid (HA.out.below hb1)
              have HBD1 := Lib.hid (isBuilder_below HBD.out hb1)
              have hB1 : Below w.heap.size w w1 := hB.trans (hb1.mono (by omega))
              have hsz1 : w.heap.size + 2 ≤ w1.heap.size := by have := hb1.size; omega
              clear hb1 x0
              go_wp2_with fail
              refine (putPair (w.heap.size + 1) (w.heap.size + 1) _ _ _ w1 HBD1.out ?hs (by omega)).mono ?_
              case hs => simp [ByteArray.size] at hpl ⊢; omega
              rintro e w2 ⟨rfl, hbd2, hb2⟩
              have HBD2 : Hid (Lib.IsBuilder 96 5 (w.heap.size + 1) (w.heap.size + 1) (Lib.byteCells (trL X ++ peK X.peers (k + 1))) w2) := by
                refine Lib.hid ?_
                rw [peK_succ _ k hlt]
                simpa using hbd2
              have HA2 := Lib.hid (show Lb w2 w.heap.size 29 X _ _ _ _ from (hb2.block w.heap.size (by omega)).trans HA1.out)
              have hB2 : Below w.heap.size w w2 := hB1.trans (hb2.mono (by omega))
              have hsz2 : w.heap.size + 2 ≤ w2.heap.size := by have := hb2.size; omega
              clear hbd2 hb2
              go_wp2
              exact ⟨⟨k + 1, by omega, by go_num, hB2, hsz2, HA2, HBD2⟩, by simp [intOf]; omega⟩
            · obtain rfl : k = X.peers.length := by omega
              have HBD : Hid (Lib.IsBuilder 96 5 (w.heap.size + 1) (w.heap.size + 1) (Lib.byteCells (peL X)) wr) := HBD
              have c36 := HA.out.cell 36
              rw [lcells_36 HI.out] at c36
              go_wp2_with fail
              clear c36
              have hB03 := hB
              have hsz03 := hsz
              have HBD03 := HBD
              go_loopw [92] (fun v6 wr => ∃ (k : Nat), k ≤ X.xn ∧ v6 = .int .i64 k ∧ Below w.heap.size w wr ∧ w.heap.size + 2 ≤ wr.heap.size ∧ Hid (Lib.IsBuilder 96 5 (w.heap.size + 1) (w.heap.size + 1) (Lib.byteCells (peL X ++ prK X k)) wr)) (fun v6 _ => X.xn - (intOf v6).toNat)
              case atStart => exact ⟨0, Nat.zero_le _, rfl, hB03, hsz03, by simpa [prK, Hid] using HBD03.out⟩
              case round =>
                obtain ⟨k, hk, rfl, hB, hsz, HBD⟩ := hrel
                have hk0 : (0 : Int) ≤ (k : Int) := by omega
                by_cases hlt : k < X.xn
                · rcases HPP.out with h0 | ⟨B, o, rfl, ha⟩
                  · omega
                  · obtain ⟨cs, hcell, hksz, hrv⟩ := ha k hlt
                    replace hcell := hcell.keep (Keeps.of_below hB)
                    have htx : ∃ kd i a4 n4 c4 a5 n5 c5, cs = [.int .i64 kd, .int .i64 i, .string (textV (X.xv k)), .slice a4 n4 c4, .slice a5 n5 c5] ∧ (textV (X.xv k)).size ≤ 1048576 := by
                      cases hx : X.xv k with
                      | leaf => rw [hx] at hrv; exact (hrv : False).elim
                      | mk kd i t n l m dk dv =>
                        rw [hx] at hrv
                        obtain ⟨lv, xv, rfl, hts, ⟨a4, c4, rfl, _⟩, ⟨a5, c5, rfl, _⟩⟩ := hrv
                        exact ⟨_, _, _, _, _, _, _, _, rfl, hts⟩
                    obtain ⟨kd, i, a4, n4, c4, a5, n5, c5, rfl, htsz⟩ := htx
                    have x0 := hcell.cell 0 rfl
                    have x1 := hcell.cell 1 rfl
                    have x2 := hcell.cell 2 rfl
                    have x3 := hcell.cell 3 rfl
                    have x4 := hcell.cell 4 rfl
                    have x5 := hcell.cell 5 rfl
                    simp only [Nat.add_zero] at x0
                    have hk1 : (k : Int) < (X.xn : Int) := by omega
                    have hel := escL_len (X.xk k).data.toList
                    have hnd : (X.xk k).data.toList.length = (X.xk k).size := by simp
                    have hel2 := escL_len (textV (X.xv k)).data.toList
                    have hnd2 : (textV (X.xv k)).data.toList.length = (textV (X.xv k)).size := by simp
                    have hpl : (peL X ++ prK X k).length ≤ 17592186044416 := by
                      have h1 := peL_len X HI.out HX.out.name HWH.out hn20 h201 h202 HM1.out HM2.out
                      have h2 := prK_len X HMP.out k hk
                      rw [List.length_append]; omega
                    clear ha hcell hrv
                    have hba : Below wr.heap.size wr (wr.alloc (.cells #[.string (X.xk k), .int .i64 kd, .int .i64 i, .string (textV (X.xv k)), .slice a4 n4 c4, .slice a5 n5 c5] 51)) := (Below.refl _ _).alloc (Nat.le_refl _) _
                    have y0 : (wr.alloc (.cells #[.string (X.xk k), .int .i64 kd, .int .i64 i, .string (textV (X.xv k)), .slice a4 n4 c4, .slice a5 n5 c5] 51)).cell? ⟨wr.heap.size, 0, none⟩ = some (.string (X.xk k)) := by simp [World.cell?_alloc_new]
                    have y3 : (wr.alloc (.cells #[.string (X.xk k), .int .i64 kd, .int .i64 i, .string (textV (X.xv k)), .slice a4 n4 c4, .slice a5 n5 c5] 51)).cell? ⟨wr.heap.size, 3, none⟩ = some (.string (textV (X.xv k))) := by simp [World.cell?_alloc_new]
                    have hbl : wr.heap.size < (wr.alloc (.cells #[.string (X.xk k), .int .i64 kd, .int .i64 i, .string (textV (X.xv k)), .slice a4 n4 c4, .slice a5 n5 c5] 51)).heap.size := by simp
                    obtain ⟨wa, hwa⟩ : ∃ wa, wr.alloc (.cells #[.string (X.xk k), .int .i64 kd, .int .i64 i, .string (textV (X.xv k)), .slice a4 n4 c4, .slice a5 n5 c5] 51) = wa := ⟨_, rfl⟩
                    rw [hwa] at hba y0 y3 hbl
                    have HBDa : Hid (Lib.IsBuilder 96 5 (w.heap.size + 1) (w.heap.size + 1) (Lib.byteCells (peL X ++ prK X k)) wa.drew) := isBuilder_below (isBuilder_below HBD.out hba) ((Below.refl _ _).drew)
                    have hyb : wa.heap[wr.heap.size]? = some (.cells #[.string (X.xk k), .int .i64 kd, .int .i64 i, .string (textV (X.xv k)), .slice a4 n4 c4, .slice a5 n5 c5] 51) := by
                      rw [← hwa]; exact heap_alloc_new wr _
                    have HKK : Hid (∀ w1 : World, Below wa.drew.heap.size wa.drew w1 → w1.cell? ⟨wr.heap.size, 0, none⟩ = some (.string (X.xk k)) ∧ w1.cell? ⟨wr.heap.size, 3, none⟩ = some (.string (textV (X.xv k)))) := fun w1 h =>
                      ⟨(h.cell (p := ⟨wr.heap.size, 0, none⟩) hbl).trans y0, (h.cell (p := ⟨wr.heap.size, 3, none⟩) hbl).trans y3⟩
                    have HK3 : Hid (∀ w1 w3 : World, Below wa.drew.heap.size wa.drew w1 → KeptU (w.heap.size + 1) w1 w3 → w3.cell? ⟨wr.heap.size, 0, none⟩ = some (.string (X.xk k)) ∧ w3.cell? ⟨wr.heap.size, 3, none⟩ = some (.string (textV (X.xv k)))) := fun w1 w3 h h3 => by
                      have hq := h3 wr.heap.size _ _ _ (by omega) (by decide) ((h.block wr.heap.size hbl).trans hyb)
                      exact ⟨by rw [Lib.cell_of_heap hq]; rfl, by rw [Lib.cell_of_heap hq]; rfl⟩
                    have hBa : Below w.heap.size w wa := hB.trans (hba.mono (by omega))
                    have hsza : w.heap.size + 2 ≤ wa.heap.size := by omega
                    have hek : ∀ l : List UInt8, (ByteArray.mk l.toArray).size = l.length := fun l => by simp [ByteArray.size]
                    have HPUT : Hid (∀ w2 : World, Below wa.drew.heap.size wa.drew w2 → Calls Tryz.prog 52 #[.string ⟨(escL (X.xk k).data.toList).toArray⟩, .string ⟨(escL (textV (X.xv k)).data.toList).toArray⟩, .pointer (some ⟨w.heap.size + 1, 0, none⟩)] w2 fun e w' =>
                        e = .returned (.tuple #[]) ∧ (Hid (Lib.IsBuilder 96 5 (w.heap.size + 1) (w.heap.size + 1) (Lib.byteCells (peL X ++ prK X (k + 1))) w') ∧ Below w.heap.size w w' ∧ w.heap.size + 2 ≤ w'.heap.size) ∧ KeptU (w.heap.size + 1) w2 w') := by
                      refine Lib.hid fun w2 h2 => ?_
                      have hs2 := h2.size
                      have hs2' : w.heap.size + 2 ≤ w2.heap.size := by have : wa.drew.heap.size = wa.heap.size := rfl; omega
                      refine (putPairK (w.heap.size + 1) (w.heap.size + 1) (peL X ++ prK X k) _ _ w2 (isBuilder_below HBDa.out h2) ?hs (by omega)).mono ?_
                      case hs => rw [hek, hek]; omega
                      rintro e w3 ⟨rfl, hbd3, hb3, hk3⟩
                      refine ⟨rfl, ⟨Lib.hid ?_, ?_, ?_⟩, hk3⟩
                      · rw [prK_succ]; simpa using hbd3
                      · exact (hBa.trans ((below_of_drew h2).mono (by omega))).trans (hb3.mono (by omega))
                      · have := hb3.size; omega
                    clear hba hyb
                    go_wp2_with fail
                    clear x0 x1 x2 x3 x4 x5
                    clear HBD hB hsz HBDa hBa hpl hel hel2 hnd hnd2 hek HPP HCL HOO HS1 HS2 HM1 HM2 HX hX
                    go_region_held3 (fun w' => w'.cell? ⟨wr.heap.size, 0, none⟩ = some (.string (X.xk k)) ∧ w'.cell? ⟨wr.heap.size, 3, none⟩ = some (.string (textV (X.xv k))))
                      (first | go_keep | (with_reducible exact HK3.out _ _ hb2 hk3) | (with_reducible exact HKK.out _ hb1) | (with_reducible exact HKK.out _ hb2) | trivial)
                      (first
                        | (go_at_call 55; (with_reducible refine (escape (X.xk k) wa.drew (Nat.le_trans hksz (by decide))).mono ?_); rintro e w1 ⟨rfl, hb1⟩)
                        | (go_at_call 55; (with_reducible refine (escape (textV (X.xv k)) w1 (Nat.le_trans htsz (by decide))).mono ?_); rintro e w2 ⟨rfl, hb2'⟩; have hb2 := hb1.trans (hb2'.mono hb1.size))
                        | (go_at_call 52; (with_reducible refine (HPUT.out w2 hb2).mono ?_); rintro e w3 ⟨rfl, h3, hk3⟩))
                    obtain ⟨HBD3, hB3, hsz3⟩ := h3
                    go_wp2
                    exact ⟨⟨k + 1, by omega, by go_num, hB3, hsz3, HBD3⟩, by simp [intOf]; omega⟩
                · obtain rfl : k = X.xn := by omega
                  go_wp2_with fail
                  refine (Tryz.Builder_String_any (w.heap.size + 1) (w.heap.size + 1) (textL X) _ HBD.out (by omega)).mono ?_
                  rintro e w1 ⟨rfl, hb1⟩
                  go_wp2
                  go_ret
                  exact ⟨rfl, hB.trans (hb1.mono (by omega))⟩

end Go.Proofs.YtdfiblaboddbjaaGreatDoor.Has
