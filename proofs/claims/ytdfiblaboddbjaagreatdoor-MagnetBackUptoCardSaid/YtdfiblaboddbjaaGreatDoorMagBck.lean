/-
  MagnetBack: the law's walk.
-/
import Derived.Test.YtdfiblaboddbjaaGreatDoorMagTwo
import Derived.Test.YtdfiblaboddbjaaGreatDoorMagFar
namespace Go.Proofs.YtdfiblaboddbjaaGreatDoor.Prs
open Go.RowKit Go.Proofs.YtdfiblaboddbjaaGreatDoor.Base Go.Proofs.YtdfiblaboddbjaaGreatDoor.Rep Go.Proofs.YtdfiblaboddbjaaGreatDoor.Mag Go.Proofs.YtdfiblaboddbjaaGreatDoor.Has
set_option linter.unusedVariables false
set_option linter.unusedSimpArgs false

/-- A link's plain contents. -/
def toPk (X : Lk) : Pk := ⟨X.info, X.name, X.trackers, X.peers, X.only, (List.range X.xn).map fun j => (X.xk j, textV (X.xv j))⟩
theorem toPk_n (X : Lk) : (toPk X).more.length = X.xn := by simp [toPk]
theorem toPk_get (X : Lk) {j : Nat} (h : j < X.xn) : (toPk X).more.getD j (⟨#[]⟩, ⟨#[]⟩) = (X.xk j, textV (X.xv j)) := by
  simp [toPk, List.getD, h]
theorem toPk_k (X : Lk) {j : Nat} (h : j < X.xn) : (toPk X).lk.xk j = X.xk j := by
  show ((toPk X).more.getD j _).1 = _
  rw [toPk_get X h]
theorem toPk_v (X : Lk) {j : Nat} (h : j < X.xn) : (toPk X).lk.xv j = moreV (textV (X.xv j)) := by
  show moreV ((toPk X).more.getD j _).2 = _
  rw [toPk_get X h]
theorem toPk_xn (X : Lk) : (toPk X).lk.xn = X.xn := toPk_n X
theorem prK_pk (X : Lk) : ∀ k, k ≤ X.xn → prK (toPk X).lk k = prK X k
  | 0, _ => rfl
  | k + 1, h => by
    rw [prK_succ, prK_succ, prK_pk X k (by omega), toPk_k X (by omega), toPk_v X (by omega)]; rfl
theorem text_pk (X : Lk) : textL (toPk X).lk = textL X := by
  unfold textL
  rw [toPk_xn, prK_pk X _ (Nat.le_refl _)]; rfl
theorem form_pk {X : Lk} (h : formP X) : formP (toPk X).lk := by
  refine ⟨h.1, h.2.1, h.2.2.1, fun j hj => ?_⟩
  rw [toPk_xn] at hj
  rw [toPk_k X hj, toPk_v X hj]
  exact ⟨(h.2.2.2 j hj).1, rfl, rfl, rfl, rfl⟩
theorem sorted_pk (X : Lk) : sortedP (toPk X).lk = sortedP X := by
  apply propext
  unfold sortedP
  rw [toPk_xn]
  constructor
  · intro h j hj
    have := h j hj
    rw [toPk_k X (by omega), toPk_k X (by omega)] at this
    exact this
  · intro h j hj
    rw [toPk_k X (by omega), toPk_k X (by omega)]
    exact h j hj
theorem bad_pk (X : Lk) : kindsBad (toPk X).lk = kindsBad X := by
  apply propext
  unfold kindsBad badJ
  rw [toPk_xn]
  constructor
  · rintro ⟨j, hj, h⟩
    refine ⟨j, hj, ?_⟩
    rw [toPk_k X hj, toPk_k X (by omega)] at h
    exact h
  · rintro ⟨j, hj, h⟩
    refine ⟨j, hj, ?_⟩
    rw [toPk_k X hj, toPk_k X (by omega)]
    exact h
theorem code_pk {X : Lk} (h : codeX X = 0) : codeX (toPk X).lk = 0 ∧ formP X := by
  cases h1 : T (formP X) with
  | false => unfold codeX at h; rw [h1] at h; cases h
  | true =>
    refine ⟨?_, T_iff.1 h1⟩
    have h2 : T (formP (toPk X).lk) = true := T_iff.2 (form_pk (T_iff.1 h1))
    rw [← h]
    unfold codeX
    rw [h1, h2, sorted_pk, bad_pk, text_pk]; rfl

theorem rv_ok {w : World} {ok : Nat → Prop} {v : V} {cs : List Value} (hv : okV v) (h : RV w ok (moreV (textV v)) cs) : RV w ok v cs := by
  cases v with
  | leaf => exact absurd hv (fun h => h)
  | mk k i s n l m dk dv =>
    obtain ⟨rfl, rfl, rfl, rfl⟩ := hv
    obtain ⟨lv, xv, e, hs, ⟨a, c, e1, b1, b2, _⟩, ⟨a', c', e2, b1', b2', _⟩⟩ := h
    exact ⟨lv, xv, e, hs, ⟨a, c, e1, b1, b2, Or.inl rfl⟩, ⟨a', c', e2, b1', b2', Or.inl rfl⟩⟩
theorem rl_pk {w : World} {ok : Nat → Prop} {X : Lk} {tv pv ov mv : Value} (hf : formP X) (h : RL w ok (toPk X).lk tv pv ov mv) : RL w ok X tv pv ov mv := by
  refine ⟨h.info, h.name, h.trackers, h.peers, h.only, ?_⟩
  have hm := h.more
  rw [toPk_xn] at hm
  refine Sl.mono hm fun b o hh j hj => ?_
  obtain ⟨c, h1, h2, h3⟩ := hh j hj
  rw [toPk_k X hj] at h1 h2
  rw [toPk_v X hj] at h3
  exact ⟨c, h1, h2, rv_ok (hf.2.2.2 j hj).2 h3⟩

def headL (X : Lk) : List UInt8 := baseL X
theorem text_head (X : Lk) : ∃ r, textL X = baseL X ++ r := by
  unfold textL peL trL soL nameL
  simp only [List.append_assoc]
  exact ⟨_, rfl⟩
theorem head_len {X : Lk} (h : X.info.length = 32) : (baseL X).length = 88 := by
  unfold baseL
  rw [List.length_append, Prs.hxL_len, h]; rfl

theorem info_cells {w : World} {b : Nat} {T : TypeId} {X : Lk} {tv pv ov mv : Value} (h : Lb w b T X tv pv ov mv) (hi : X.info.length = 32) : ∀ j (hj : j < X.info.length), w.cell? ⟨b, 0 + j, none⟩ = some (.int .u8 X.info[j].toNat) := fun j hj => by
  rw [Nat.zero_add, h.cell j]
  exact lcells_info hi tv pv ov mv j _ (by simp [hj])

set_option maxHeartbeats 8000000 in
set_option maxRecDepth 100000 in
theorem backLaw (X : Lk) (tv pv ov mv : Value) (w : World) (hX : RL w (fun b => b < w.heap.size) X tv pv ov mv) (hG : Ground w) :
    Calls Tryz.prog 4 #[.agg (lcells X tv pv ov mv).toArray] w fun e w' => e = .returned (.bool true) ∧ Below w.heap.size w w' := by
  have hi := hX.info
  have hB0 : Below w.heap.size w (w.alloc (.cells (lcells X tv pv ov mv).toArray 29)) := (Below.refl _ _).alloc (Nat.le_refl _) _
  have hA : Lb (w.alloc (.cells (lcells X tv pv ov mv).toArray 29)) w.heap.size 29 X tv pv ov mv := heap_alloc_new w _
  have hz0 : (w.alloc (.cells (lcells X tv pv ov mv).toArray 29)).heap.size = w.heap.size + 1 := by simp
  obtain ⟨W0, hW0⟩ : ∃ W0, w.alloc (.cells (lcells X tv pv ov mv).toArray 29) = W0 := ⟨_, rfl⟩
  rw [hW0] at hB0 hA hz0
  have HA0 := Lib.hid hA
  have HX := Lib.hid hX
  have HG := Lib.hid hG
  have HSL := Lib.hid (sizeLk hi tv pv ov mv)
  have HI := Lib.hid hi
  clear hA hX hG hi
  go_enter Tryz.func4, Tryz.ntmps4
  go_wp2_with (refine wpList_load_row rfl 29 _ rfl w.heap.size rfl 29 (lcells X tv pv ov mv).toArray (0, 0) _ HA0.out Tryz.underlying29 rfl HSL.out ?_)
  refine (Far.farLink X (fun b => b < w.heap.size) tv pv ov mv W0 (HX.out.keep (Keeps.of_below hB0)) (fun k hk => by omega)).mono ?_
  rintro e w1 ⟨⟨r, rfl⟩, hb1⟩
  have hB1 := hB0.trans (hb1.mono hB0.size)
  have HA1 := Lib.hid (HA0.out.below hb1)
  clear hb1
  cases r
  case true =>
    go_wp2
    go_ret
    exact ⟨rfl, hB1⟩
  have HAW := Lib.hid (awake w1 (HG.out.keep hB1))
  go_wp2_with fail
  refine HAW.out.mono ?_
  rintro e w2 ⟨rfl, hb2⟩
  have hB2 := hB1.trans (hb2.mono hB1.size)
  have HA2 := Lib.hid (HA1.out.below hb2)
  clear hb2 HAW
  go_wp2_with (refine wpList_load_row rfl 29 _ rfl w.heap.size rfl 29 (lcells X tv pv ov mv).toArray (0, 0) _ HA2.out Tryz.underlying29 rfl HSL.out ?_)
  refine (check (fun b => b < w.heap.size) X tv pv ov mv w2 (HX.out.keep (Keeps.of_below hB2)) (HG.out.pt.keep hB2)).mono ?_
  rintro e w3 ⟨rfl, hb3⟩
  have hB3 := hB2.trans (hb3.mono hB2.size)
  have HA3 := Lib.hid (HA2.out.below hb3)
  clear hb3
  have hprint := print (fun b => b < w.heap.size) X tv pv ov mv w3 (HX.out.keep (Keeps.of_below hB3)) (HG.out.pt.keep hB3)
  obtain ⟨cx, hcx⟩ : ∃ cx, codeX X = cx := ⟨_, rfl⟩
  obtain ⟨ox, hox⟩ : ∃ ox, outX X = ox := ⟨_, rfl⟩
  rw [hcx, hox] at hprint
  have HP := Lib.hid hprint
  have HCX := Lib.hid hcx
  have HOX := Lib.hid hox
  clear hprint hox
  rw [hcx]
  clear hcx
  go_wp2_with (refine wpList_load_row rfl 29 _ rfl w.heap.size rfl 29 (lcells X tv pv ov mv).toArray (0, 0) _ HA3.out Tryz.underlying29 rfl HSL.out ?_)
  refine HP.out.mono ?_
  rintro e w4 ⟨rfl, hb4⟩
  have hB4 := hB3.trans (hb4.mono hB3.size)
  have HA4 := Lib.hid (HA3.out.below hb4)
  clear hb4
  go_wp2_with fail
  refine (numC cx _).mono ?_
  rintro e w' ⟨rfl, hw⟩
  obtain rfl := hw.symm
  clear hw
  go_wp2_with fail
  refine (numC cx _).mono ?_
  rintro e w' ⟨rfl, hw⟩
  obtain rfl := hw.symm
  clear hw
  have hself : (cx != cx) = false := by simp
  have hself2 : (cx == cx) = true := by simp
  go_wp2_with fail
  refine (numC cx _).mono ?_
  rintro e w' ⟨rfl, hw⟩
  obtain rfl := hw.symm
  clear hw hself hself2
  by_cases hc : cx = 0
  · subst hc
    obtain ⟨hcp, hfm⟩ := code_pk HCX.out
    obtain ⟨hgood, hlen⟩ := (code_good (P := toPk X) HI.out).1 hcp
    have hptx := parse_text (toPk X) hgood hlen
    rw [text_pk] at hptx hlen
    have hoT : ox.data.toList = textL X := by
      rw [← HOX.out]; unfold outX; rw [if_pos HCX.out]
    have hos : ox.size = (textL X).length := by
      rw [← hoT]; simp
    obtain ⟨rr, hrr⟩ := text_head X
    have hhl := head_len HI.out
    obtain ⟨Q, hQ⟩ : ∃ Q : ByteArray, (⟨(hxL X.info).toArray⟩ : ByteArray) = Q := ⟨_, rfl⟩
    have hQs : Q.size ≤ 64 := by
      rw [← hQ]; show (hxL X.info).toArray.size ≤ _
      rw [List.size_toArray, Prs.hxL_len, HI.out]; decide
    obtain ⟨Hd, hHd⟩ : ∃ Hd : ByteArray, (⟨#[109, 97, 103, 110, 101, 116, 58, 63, 120, 116, 61, 117, 114, 110, 58, 98, 116, 109, 104, 58, 49, 50, 50, 48]⟩ : ByteArray) ++ Q = Hd := ⟨_, rfl⟩
    have hHT : Hd.data.toList = baseL X := by rw [← hHd, data_app, ← hQ]; rfl
    have hHs : Hd.size = 88 := by
      have : Hd.data.toList.length = Hd.size := by simp
      rw [← this, hHT, hhl]
    have hle : Hd.size ≤ ox.size := by rw [hHs, hos, hrr, List.length_append, hhl]; omega
    have hx1 : ((ox.extract 0 Hd.size).toList == Hd.toList) = true := by
      have h2 : (ox.extract 0 Hd.size).toList = Hd.toList := by
        rw [Lib.toList_data, Lib.toList_data, hHT]
        simp only [ByteArray.data_extract, Array.toList_extract]
        rw [List.extract_eq_take_drop, List.drop_zero, Nat.sub_zero, hoT, hrr, hHs, ← hhl, List.take_left]
      rw [h2]; simp
    have hmax : ox.size ≤ 4096 := by rw [hos]; exact hlen
    have i1 : (ox.size : Int) ≤ 4096 := by omega
    have i2 : (Hd.size : Int) ≤ (ox.size : Int) := by omega
    have i3 : (0 : Int) ≤ (Hd.size : Int) := by omega
    have hps : ∀ w', Ground w' → Calls Tryz.prog 8 #[.string ox] w' fun e w'' => (∃ tv pv ov mv, e = .returned (.tuple #[.agg (lcells (toPk X).lk tv pv ov mv).toArray, .int .i64 0, .int .i64 0]) ∧ OL w'' w'.heap.size 5000 (toPk X) tv pv ov mv) ∧ Below w'.heap.size w' w'' := fun w' hg => by
      have := parse ox w' (by omega) hg
      rw [hoT, hptx] at this
      exact this
    have hdig := digHex X.info w.heap.size 0 32 w4 (info_cells HA4.out HI.out) HA4.out.lt (by rw [HI.out]; decide) (by rw [HI.out]; decide) (by decide)
    rw [HI.out, hQ] at hdig
    have HDIG := Lib.hid hdig
    have HPS := Lib.hid hps
    have HHD := Lib.hid hHd
    have HFM := Lib.hid hfm
    clear hQ hcp hgood hlen hptx hoT hos hrr hhl hHT hHs hle hmax hps hdig hHd hfm
    go_wp2_with fail
    refine HDIG.out.mono ?_
    rintro e w5 ⟨rfl, hb5⟩
    have hB5 := hB4.trans (hb5.mono hB4.size)
    have HA5 := Lib.hid (HA4.out.below hb5)
    clear hb5
    have hHd := HHD.out
    go_wp2_with fail
    clear hHd
    refine (HPS.out w5 (HG.out.keep hB5)).mono ?_
    rintro e w6 ⟨⟨tv', pv', ov', mv', rfl, hO⟩, hb6⟩
    have hB6 := hB5.trans (hb6.mono hB5.size)
    have HA6 := Lib.hid (HA5.out.below hb6)
    have hs1 := hO.store (w6.alloc (.cells Twin.zeroL 29)) w6.heap.size Twin.zeroL rfl (Go.heap_alloc_new _ _)
    have hll : (lcells (toPk X).lk tv' pv' ov' mv').length = 37 := lcells_length (X := (toPk X).lk) hO.info _ _ _ _
    have hr1 := setRow_new w6 Twin.zeroL 29 (lcells (toPk X).lk tv' pv' ov' mv').toArray
    obtain ⟨W7, hW7⟩ : ∃ W7, (w6.alloc (.cells Twin.zeroL 29)).setRow w6.heap.size (lcells (toPk X).lk tv' pv' ov' mv').toArray = W7 := ⟨_, rfl⟩
    rw [hW7] at hs1 hr1
    have HL7 : Hid (Lb W7 w6.heap.size 29 (toPk X).lk tv' pv' ov' mv') := hr1.1
    have hB7 := hB6.trans (hr1.2.1.mono hB6.size)
    have HA7 := Lib.hid (HA6.out.below hr1.2.1)
    have HSL' := Lib.hid (sizeLk (X := (toPk X).lk) hO.info tv' pv' ov' mv')
    have hsame := Same.same (fun b => b < w.heap.size) (fun b => w5.heap.size ≤ b) X tv pv ov mv tv' pv' ov' mv' W7 (HX.out.keep (Keeps.of_below hB7)) (rl_pk HFM.out ((hO.below hr1.2.1).rl (by decide)))
    have hcells : lcells (toPk X).lk tv' pv' ov' mv' = lcells X tv' pv' ov' mv' := rfl
    rw [← hcells] at hsame
    have HSM := Lib.hid hsame
    clear hO hb6 hr1 hsame hcells
    go_wp2_with fail
    clear hs1 hll
    refine (numC 0 _).mono ?_
    rintro e w' ⟨rfl, hw⟩
    obtain rfl := hw.symm
    clear hw
    go_wp2_with (first
      | (refine wpList_load_row_g (by rfl) 29 _ rfl w.heap.size rfl 29 (lcells X tv pv ov mv).toArray (0, 0) _ HA7.out Tryz.underlying29 rfl HSL.out ?_)
      | (refine wpList_load_row_g (by rfl) 29 _ rfl w6.heap.size rfl 29 (lcells (toPk X).lk tv' pv' ov' mv').toArray (0, 0) _ HL7.out Tryz.underlying29 rfl HSL'.out ?_))
    refine HSM.out.mono ?_
    rintro e w8 ⟨rfl, hb8⟩
    go_wp2
    go_ret
    exact ⟨by simp, hB7.trans (hb8.mono hB7.size)⟩
  · have hc' : (cx == 0) = false := by simpa using hc
    have ho : ox = ⟨#[]⟩ := by
      rw [← HOX.out]; unfold outX; rw [if_neg (by rw [HCX.out]; exact hc)]
    have ho1 : (ox.toList == []) = true := by rw [ho, Lib.toList_data]; rfl
    have ho2 : ox.toList = [] := by rw [ho, Lib.toList_data]
    clear ho
    go_wp2
    go_ret
    exact ⟨by simp, hB4⟩

end Go.Proofs.YtdfiblaboddbjaaGreatDoor.Prs
