/-
  The statements' own first link: it is read and written.
-/
import Derived.Test.YtdfiblaboddbjaaGreatDoorMagRnd3
import Derived.Test.YtdfiblaboddbjaaGreatDoorMagPgS
import Derived.Test.YtdfiblaboddbjaaGreatDoorMagLaw
namespace Go.Proofs.YtdfiblaboddbjaaGreatDoor.Prs
open Go.RowKit Go.Proofs.YtdfiblaboddbjaaGreatDoor.Base Go.Proofs.YtdfiblaboddbjaaGreatDoor.Rep Go.Proofs.YtdfiblaboddbjaaGreatDoor.Mag Go.Proofs.YtdfiblaboddbjaaGreatDoor.Has
set_option linter.unusedVariables false
set_option linter.unusedSimpArgs false

/-- The link that every statement reads first. -/
def P0 : Pk := ⟨[0, 0, 0, 0, 0, 0, 0, 0, 0, 0, 0, 0, 0, 0, 0, 0, 0, 0, 0, 0, 0, 0, 0, 0, 0, 0, 0, 0, 0, 0, 0, 255], ⟨#[97, 32, 98]⟩, [], [⟨#[104, 58, 49]⟩], [(1, 1), (3, 2)], []⟩
def knownL : List UInt8 := [109, 97, 103, 110, 101, 116, 58, 63, 120, 116, 61, 117, 114, 110, 58, 98, 116, 109, 104, 58, 49, 50, 50, 48, 48, 48, 48, 48, 48, 48, 48, 48, 48, 48, 48, 48, 48, 48, 48, 48, 48, 48, 48, 48, 48, 48, 48, 48, 48, 48, 48, 48, 48, 48, 48, 48, 48, 48, 48, 48, 48, 48, 48, 48, 48, 48, 48, 48, 48, 48, 48, 48, 48, 48, 48, 48, 48, 48, 48, 48, 48, 48, 48, 48, 48, 48, 102, 102, 38, 100, 110, 61, 97, 37, 50, 48, 98, 38, 115, 111, 61, 49, 44, 51, 45, 52, 38, 120, 46, 112, 101, 61, 104, 58, 49]
theorem itoa1 : Lib.itoa 1 = [49] := (numS_some (l := [49]) (n := 1) (by decide +kernel)).2.1
theorem itoa3 : Lib.itoa 3 = [51] := (numS_some (l := [51]) (n := 3) (by decide +kernel)).2.1
theorem itoa4 : Lib.itoa 4 = [52] := (numS_some (l := [52]) (n := 4) (by decide +kernel)).2.1
theorem so0 : soK P0.lk.only P0.lk.only.length = [38, 115, 111, 61, 49, 44, 51, 45, 52] := by
  show soK [((1 : Int), (1 : Int)), (3, 2)] 2 = _
  have e1 : numR (1, 1) = [49] := by unfold numR; simp [itoa1]
  have e2 : numR (3, 2) = [51, 45, 52] := by unfold numR; simp [itoa3, itoa4]
  simp [soK, e1, e2]
theorem text0 : textL P0.lk = knownL := by
  unfold textL peL trL soL
  rw [so0]
  decide +kernel
theorem good0 : Good P0 := by
  refine ⟨rfl, by simp [P0], ?_, ?_, ?_, by simp [P0], by simp [P0], fun j a b h => by simp [P0] at h, fun p h => by simp [P0] at h⟩
  · intro h
    have : (⟨#[]⟩ : ByteArray) = ⟨#[104, 58, 49]⟩ := List.mem_singleton.1 h
    exact absurd (congrArg ByteArray.size this) (by decide)
  · intro i hi
    have : i = 0 ∨ i = 1 := by simp [P0] at hi; omega
    rcases this with rfl | rfl <;> simp [P0]
  · intro i hi
    have : i = 0 := by simp [P0] at hi; omega
    subst this
    simp [P0]
theorem parse0 : parseS knownL = (P0, 0, 0) := by
  rw [← text0]
  exact parse_text P0 good0 (by rw [text0]; decide)
theorem code0 : codeX P0.lk = 0 := (code_good rfl).2 ⟨good0, by rw [text0]; decide⟩

theorem numC (k : Int) (w : World) : Calls Tryz.prog 9 #[.int .i64 k] w fun e w' => e = .returned (.int .i64 k) ∧ w' = w := by
  go_enter Tryz.func9, Tryz.ntmps9
  go_wp2
  go_ret
  exact ⟨rfl, rfl⟩

set_option maxHeartbeats 4000000 in
set_option maxRecDepth 100000 in
theorem awake (w : World) (hG : Ground w) :
    Calls Tryz.prog 7 #[] w fun e w' => e = .returned (.bool true) ∧ Below w.heap.size w w' := by
  have hp : ∀ s : ByteArray, s.data.toList = knownL → Calls Tryz.prog 8 #[.string s] w fun e w' => (∃ tv pv ov mv, e = .returned (.tuple #[.agg (lcells P0.lk tv pv ov mv).toArray, .int .i64 0, .int .i64 0]) ∧ OL w' w.heap.size 5000 P0 tv pv ov mv) ∧ Below w.heap.size w w' := by
    intro s hs
    have h1 : s.size ≤ 1048576 := by
      have : s.data.toList.length = s.size := by simp
      rw [← this, hs]; decide
    have := parse s w h1 hG
    rw [hs, parse0] at this
    exact this
  have HP := Lib.hid hp
  have HG := Lib.hid hG
  clear hp hG
  go_enter Tryz.func7, Tryz.ntmps7
  go_wp2_with fail
  refine (HP.out _ (by decide +kernel)).mono ?_
  rintro e w1 ⟨⟨tv, pv, ov, mv, rfl, hO⟩, hb1⟩
  have hs1 := hO.store (w1.alloc (.cells Twin.zeroL 29)) w1.heap.size Twin.zeroL rfl (Go.heap_alloc_new _ _)
  have hll : (lcells P0.lk tv pv ov mv).length = 37 := lcells_length (X := P0.lk) hO.info _ _ _ _
  have hr1 := setRow_new w1 Twin.zeroL 29 (lcells P0.lk tv pv ov mv).toArray
  obtain ⟨W1, hW1⟩ : ∃ W1, (w1.alloc (.cells Twin.zeroL 29)).setRow w1.heap.size (lcells P0.lk tv pv ov mv).toArray = W1 := ⟨_, rfl⟩
  rw [hW1] at hs1 hr1
  have HL1 : Hid (Lb W1 w1.heap.size 29 P0.lk tv pv ov mv) := hr1.1
  have hO1 := hO.below hr1.2.1
  have HO1 := Lib.hid hO1
  have HB1 : Hid (Below w.heap.size w W1) := hb1.trans (hr1.2.1.mono hb1.size)
  have HSL := Lib.hid (sizeLk (X := P0.lk) hO.info tv pv ov mv)
  have c31 : W1.cell? ⟨w1.heap.size, 31, none⟩ = some (.int .u8 255) := by rw [HL1.out.cell 31]; rfl
  have c0 : W1.cell? ⟨w1.heap.size, 0, none⟩ = some (.int .u8 0) := by rw [HL1.out.cell 0]; rfl
  have c32 : W1.cell? ⟨w1.heap.size, 32, none⟩ = some (.string ⟨#[97, 32, 98]⟩) := by rw [HL1.out.cell 32]; rfl
  have c34 : W1.cell? ⟨w1.heap.size, 34, none⟩ = some pv := by rw [HL1.out.cell 34]; rfl
  have c35 : W1.cell? ⟨w1.heap.size, 35, none⟩ = some ov := by rw [HL1.out.cell 35]; rfl
  have hz1 : W1.heap.size = w1.heap.size + 1 := hr1.2.2
  have hon : W1.ownsRow w.heap.size 43 2 ov 2 [.int .i64 1, .int .i64 1, .int .i64 3, .int .i64 2] := hO1.on
  obtain ⟨hxl, hx⟩ := hon
  rcases hx with ⟨_, h0⟩ | ⟨g, cap, cur, rfl, hgB, hgh, hgn, hgm, hgc, hgx⟩
  · cases h0
  have hgx' : cur.toList.take 4 = [.int .i64 1, .int .i64 1, .int .i64 3, .int .i64 2] := hgx
  have cells4 : ∀ j u, ([.int .i64 1, .int .i64 1, .int .i64 3, .int .i64 2] : List Value)[j]? = some u → W1.cell? ⟨g, j, none⟩ = some u := by
    intro j u hu
    have hj : j < 4 := (List.getElem?_eq_some_iff.1 hu).1
    rw [Lib.cell_of_heap hgh]
    rw [← hgx', List.getElem?_take_of_lt hj] at hu
    simpa using hu
  have g2 : W1.cell? ⟨g, 2, none⟩ = some (.int .i64 3) := cells4 2 _ rfl
  have g3 : W1.cell? ⟨g, 3, none⟩ = some (.int .i64 2) := cells4 3 _ rfl
  have hcap2 : 2 ≤ cap := hgn
  have HRS : Hid (∀ W', Below W1.heap.size W1 W' → RS W' (fun b => w.heap.size ≤ b) [⟨#[104, 58, 49]⟩] pv) := fun W' h => (HO1.out.pes' (by decide)).keep (Keeps.of_below h)
  have HLIT : Hid (∀ W : World, RS (W.alloc (.cells #[.string ⟨#[104, 58, 49]⟩] 9)) (fun _ => True) [⟨#[104, 58, 49]⟩] (.slice (some ⟨W.heap.size, 0, none⟩) 1 1)) := fun W =>
    ⟨_, _, rfl, Nat.le_refl _, ⟨by decide, by decide, fun h => by cases h⟩, Or.inr ⟨W.heap.size, 0, rfl, fun j s hj => by
      obtain ⟨hj0, e⟩ := List.getElem?_eq_some_iff.1 hj
      have : j = 0 := by simp at hj0; exact hj0
      subst this
      refine ⟨⟨trivial, by simp, fun i u hu => ?_⟩, by rw [← e]; show (⟨#[104, 58, 49]⟩ : ByteArray).size ≤ _; decide⟩
      have hi : i = 0 := by have := (List.getElem?_eq_some_iff.1 hu).1; simp at this; exact this
      subst hi
      rw [Lib.cell_of_heap (Go.heap_alloc_new W _)]
      rw [← e] at hu
      exact hu⟩⟩
  obtain ⟨pa, pn, pc, rfl⟩ : ∃ a n c, pv = .slice a n c := by
    obtain ⟨a, c, h⟩ := hO1.slices.2.1
    exact ⟨a, _, c, h⟩
  clear hO hO1 hr1 hb1 hgh hgx hgx' cells4 hxl hgc
  go_wp2_with fail
  refine (numC 0 _).mono ?_
  rintro e w' ⟨rfl, hw⟩
  obtain rfl := hw.symm
  have HL : Hid (RS (W1.alloc (.cells #[.string ⟨#[104, 58, 49]⟩] 9)) (fun _ => True) [⟨#[104, 58, 49]⟩] (.slice (some ⟨w1.heap.size + 1, 0, none⟩) 1 1)) := by
    rw [← hz1]; exact HLIT.out W1
  have HR : Hid (RS (W1.alloc (.cells #[.string ⟨#[104, 58, 49]⟩] 9)) (fun b => w.heap.size ≤ b) [⟨#[104, 58, 49]⟩] (.slice pa pn pc)) := HRS.out _ ((Below.refl _ _).alloc (Nat.le_refl _) _)
  go_wp2_with fail
  refine (Same.textsSame _ _ [⟨#[104, 58, 49]⟩] _ _ _ HR.out HL.out).mono ?_
  rintro e w2 ⟨rfl, hb2⟩
  have hbA : Below W1.heap.size W1 w2 := ((Below.refl _ _).alloc (Nat.le_refl _) _).trans (hb2.mono (by simp))
  have HL2 := Lib.hid (HL1.out.below hbA)
  have HB2 : Hid (Below w.heap.size w w2) := HB1.out.trans (hbA.mono HB1.out.size)
  have HRL : Hid (RL w2 (fun b => w.heap.size ≤ b) P0.lk tv (.slice pa pn pc) (.slice (some ⟨g, 0, none⟩) 2 cap) mv) := (HO1.out.below hbA).rl (by decide)
  have HPT : Hid (PT w2) := HG.out.pt.keep HB2.out
  have hpr := print (fun b => w.heap.size ≤ b) P0.lk tv (.slice pa pn pc) (.slice (some ⟨g, 0, none⟩) 2 cap) mv w2 HRL.out HPT.out
  have ho : outX P0.lk = ⟨knownL.toArray⟩ := by unfold outX; rw [if_pos code0, text0]
  rw [ho, code0] at hpr
  have HPR := Lib.hid hpr
  clear hbA hb2 c31 c0 c32 c34 c35 hz1 g2 g3 HR HL hpr ho
  go_wp2_with (refine wpList_load_row rfl 29 _ rfl w1.heap.size rfl 29 (lcells P0.lk tv (.slice pa pn pc) (.slice (some ⟨g, 0, none⟩) 2 cap) mv).toArray (0, 0) _ HL2.out Tryz.underlying29 rfl HSL.out ?_)
  refine HPR.out.mono ?_
  rintro e w3 ⟨rfl, hb3⟩
  have HB3 : Hid (Below w.heap.size w w3) := HB2.out.trans (hb3.mono HB2.out.size)
  clear hb3
  go_wp2_with fail
  refine (numC 0 _).mono ?_
  rintro e w' ⟨rfl, hw⟩
  obtain rfl := hw.symm
  go_wp2
  go_ret
  exact ⟨by simp; rfl, HB3.out⟩

end Go.Proofs.YtdfiblaboddbjaaGreatDoor.Prs
