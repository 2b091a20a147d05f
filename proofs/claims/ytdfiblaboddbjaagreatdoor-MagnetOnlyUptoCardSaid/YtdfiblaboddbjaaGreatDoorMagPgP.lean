/-
  A reader in memory; the program's place.
-/
import Derived.Test.YtdfiblaboddbjaaGreatDoorMagPgN
import Derived.Test.YtdfiblaboddbjaaGreatDoorMagPrsP
import Derived.Test.YtdfiblaboddbjaaGreatDoorMagPrint2
import Derived.Laws.Cover1
namespace Go.Proofs.YtdfiblaboddbjaaGreatDoor.Prs
open Go.RowKit Go.Proofs.YtdfiblaboddbjaaGreatDoor.Base Go.Proofs.YtdfiblaboddbjaaGreatDoor.Rep Go.Proofs.YtdfiblaboddbjaaGreatDoor.Mag Go.Proofs.YtdfiblaboddbjaaGreatDoor.Has
set_option linter.unusedVariables false
set_option linter.unusedSimpArgs false

def rcells (P : Pk) (tv pv ov mv : Value) (n : Nat) (last : ByteArray) : List Value := lcells P.lk tv pv ov mv ++ [.int .i64 (n : Int), .string last]
/-- A reader at a block. -/
def Rd (w : World) (b : Nat) (P : Pk) (tv pv ov mv : Value) (n : Nat) (last : ByteArray) : Prop := w.heap[b]? = some (.cells (rcells P tv pv ov mv n last).toArray 60 (0, 0))
theorem rcells_length {P : Pk} (h : P.info.length = 32) (tv pv ov mv : Value) (n : Nat) (last : ByteArray) : (rcells P tv pv ov mv n last).length = 39 := by simp [rcells, lcells_length (X := P.lk) h]
theorem Rd.cell {w : World} {b : Nat} {P : Pk} {tv pv ov mv : Value} {n : Nat} {last : ByteArray} (h : Rd w b P tv pv ov mv n last) (j : Nat) : w.cell? ⟨b, j, none⟩ = (rcells P tv pv ov mv n last)[j]? := by
  rw [Lib.cell_of_heap h]; simp
theorem Rd.lt {w : World} {b : Nat} {P : Pk} {tv pv ov mv : Value} {n : Nat} {last : ByteArray} (h : Rd w b P tv pv ov mv n last) : b < w.heap.size := (Array.getElem?_eq_some_iff.1 h).1
theorem Rd.below {w w' : World} {b B : Nat} {P : Pk} {tv pv ov mv : Value} {n : Nat} {last : ByteArray} (h : Rd w b P tv pv ov mv n last) (hb : Below B w w') (hB : b < B) : Rd w' b P tv pv ov mv n last := (hb.block b hB).trans h
theorem Rd.old {w : World} {b : Nat} {P : Pk} {tv pv ov mv : Value} {n : Nat} {last : ByteArray} (h : Rd w b P tv pv ov mv n last) (hi : P.info.length = 32) (j : Nat) (hj : j < 37) : w.cell? ⟨b, j, none⟩ = (lcells P.lk tv pv ov mv)[j]? := by
  rw [h.cell, rcells, List.getElem?_append_left (by rw [lcells_length (X := P.lk) hi]; exact hj)]
theorem Rd.c33 {w : World} {b : Nat} {P : Pk} {tv pv ov mv : Value} {n : Nat} {last : ByteArray} (h : Rd w b P tv pv ov mv n last) (hi : P.info.length = 32) : w.cell? ⟨b, 33, none⟩ = some tv := by rw [h.old hi _ (by decide)]; exact lcells_33 (X := P.lk) hi _ _ _ _
theorem Rd.c34 {w : World} {b : Nat} {P : Pk} {tv pv ov mv : Value} {n : Nat} {last : ByteArray} (h : Rd w b P tv pv ov mv n last) (hi : P.info.length = 32) : w.cell? ⟨b, 34, none⟩ = some pv := by rw [h.old hi _ (by decide)]; exact lcells_34 (X := P.lk) hi _ _ _ _
theorem Rd.c35 {w : World} {b : Nat} {P : Pk} {tv pv ov mv : Value} {n : Nat} {last : ByteArray} (h : Rd w b P tv pv ov mv n last) (hi : P.info.length = 32) : w.cell? ⟨b, 35, none⟩ = some ov := by rw [h.old hi _ (by decide)]; exact lcells_35 (X := P.lk) hi _ _ _ _
theorem Rd.c36 {w : World} {b : Nat} {P : Pk} {tv pv ov mv : Value} {n : Nat} {last : ByteArray} (h : Rd w b P tv pv ov mv n last) (hi : P.info.length = 32) : w.cell? ⟨b, 36, none⟩ = some mv := by rw [h.old hi _ (by decide)]; exact lcells_36 (X := P.lk) hi _ _ _ _
theorem Rd.c37 {w : World} {b : Nat} {P : Pk} {tv pv ov mv : Value} {n : Nat} {last : ByteArray} (h : Rd w b P tv pv ov mv n last) (hi : P.info.length = 32) : w.cell? ⟨b, 37, none⟩ = some (.int .i64 (n : Int)) := by
  rw [h.cell, rcells, List.getElem?_append_right (by rw [lcells_length (X := P.lk) hi]; decide), lcells_length (X := P.lk) hi]; rfl
theorem Rd.c38 {w : World} {b : Nat} {P : Pk} {tv pv ov mv : Value} {n : Nat} {last : ByteArray} (h : Rd w b P tv pv ov mv n last) (hi : P.info.length = 32) : w.cell? ⟨b, 38, none⟩ = some (.string last) := by
  rw [h.cell, rcells, List.getElem?_append_right (by rw [lcells_length (X := P.lk) hi]; decide), lcells_length (X := P.lk) hi]; rfl

theorem kind1 (s : ByteArray) : kindI s = 1 ↔ s = ⟨#[100, 110]⟩ := by
  unfold kindI
  constructor
  · intro h
    by_cases e : s = ⟨#[100, 110]⟩
    · exact e
    · rw [if_neg e] at h
      repeat' split at h
      all_goals omega
  · intro h; subst h; rfl
theorem kind2 (s : ByteArray) : kindI s = 2 ↔ s = ⟨#[115, 111]⟩ := by
  unfold kindI
  constructor
  · intro h
    by_cases e : s = ⟨#[115, 111]⟩
    · exact e
    · rw [if_neg e] at h
      repeat' split at h
      all_goals omega
  · intro h; subst h; rfl
theorem kind3 (s : ByteArray) : kindI s = 3 ↔ s = ⟨#[116, 114]⟩ := by
  unfold kindI
  constructor
  · intro h
    by_cases e : s = ⟨#[116, 114]⟩
    · exact e
    · rw [if_neg e] at h
      repeat' split at h
      all_goals omega
  · intro h; subst h; rfl
theorem kind4 (s : ByteArray) : kindI s = 4 ↔ s = ⟨#[120, 46, 112, 101]⟩ := by
  unfold kindI
  constructor
  · intro h
    by_cases e : s = ⟨#[120, 46, 112, 101]⟩
    · exact e
    · rw [if_neg e] at h
      repeat' split at h
      all_goals omega
  · intro h; subst h; rfl

set_option maxHeartbeats 4000000 in
set_option maxRecDepth 100000 in
theorem place (P : Pk) (tv pv ov mv : Value) (n : Nat) (last key value : ByteArray) (B N b : Nat) (w : World) (hR : Rd w b P tv pv ov mv n last) (hO : OL w B N P tv pv ov mv) (hN : N ≤ 100000) (hn : n ≤ 1048576) :
    Calls Tryz.prog 45 #[.pointer (some ⟨b, 0, none⟩), .string key, .string value] w fun e w' => e = .returned (.int .i64 (placeE P n last key value)) ∧ Below w.heap.size w w' := by
  have hi : P.info.length = 32 := hO.info
  have hblt := hR.lt
  have x38 : ∀ x : Later w.drew, x.w.cell? ⟨b, 38, none⟩ = some (.string last) := fun x => (x.below.cell (p := ⟨b, 38, none⟩) (by simpa using hblt)).trans (hR.c38 hi)
  have HF : Hid (∀ w1 : World, Below w.drew.heap.size w.drew w1 → Below w.heap.size w w1 ∧ Rd w1 b P tv pv ov mv n last ∧ OL w1 B N P tv pv ov mv) := fun w1 h => by
    have h' : Below w.heap.size w w1 := by
      refine Below.trans ?_ (by simpa using h)
      exact below_N (Below.refl _ _) 1
    exact ⟨h', hR.below h' hblt, hO.below h'⟩
  obtain ⟨k, hk⟩ : ∃ k, kindI key = k := ⟨_, rfl⟩
  obtain ⟨a, ha⟩ : ∃ a, kindI last = a := ⟨_, rfl⟩
  have hkr := kindI_range key
  have har := kindI_range last
  rw [hk] at hkr
  rw [ha] at har
  have HK := Lib.hid hk
  have HA := Lib.hid ha
  have hrk : Hid (∀ w', Calls Tryz.prog 32 #[.string key] w' fun e w'' => e = .returned (.int .i64 k) ∧ Below w'.heap.size w' w'') := fun w' => by have := rank key w'; rw [hk] at this; exact this
  have hrl : Hid (∀ w', Calls Tryz.prog 32 #[.string last] w' fun e w'' => e = .returned (.int .i64 a) ∧ Below w'.heap.size w' w'') := fun w' => by have := rank last w'; rw [ha] at this; exact this
  clear hk ha hO hR
  have HI := Lib.hid hi
  clear hi
  go_enter Tryz.func45, Tryz.ntmps45
  go_wp2_with fail
  refine wp_region_quiet_later (by kernel_rfl) (by kernel_rfl) ?_
  repeat (go_big_quiet_step (first
    | (go_at_call 32; exact (hrk.out _).mono fun e w2 h => ⟨h.1, ⟨⟨w2, (Later.below _).trans (h.2.mono (Later.below _).size)⟩, rfl⟩⟩)
    | (go_at_call 32; exact (hrl.out _).mono fun e w2 h => ⟨h.1, ⟨⟨w2, (Later.below _).trans (h.2.mono (Later.below _).size)⟩, rfl⟩⟩)))
  refine wpQuiet_nil ?_
  intro w1 hw1
  have hb1 : Below w.drew.heap.size w.drew w1 := by obtain ⟨x, hx⟩ := hw1; rw [hx]; exact x.below
  obtain ⟨hBB, hR1, hO1⟩ := HF.out w1 hb1
  have c33 := hR1.c33 HI.out
  have c34 := hR1.c34 HI.out
  have c37 := hR1.c37 HI.out
  have c38 := hR1.c38 HI.out
  have HT : Hid (SS w1 P.trackers tv) := SS.of (hO1.trs' (by omega))
  have HPE : Hid (SS w1 P.peers pv) := SS.of (hO1.pes' (by omega))
  have HBB := Lib.hid hBB
  clear hw1 hb1 hBB hR1 hO1 x38 HF hrk hrl
  by_cases hn0 : n = 0
  · subst hn0
    by_cases hk0 : k = 0
    · subst hk0
      have HE : Hid (placeE P 0 last key value = if oldHash.isPrefixOf value.data.toList = true then 224 else if 0 < 0 then 225 else 0) := placeE_xt HK.out
      go_wp2_with fail
      refine (Tryz.strings_HasPrefix value ⟨#[117, 114, 110, 58, 98, 116, 105, 104, 58]⟩ w1).mono ?_
      rintro e w2 ⟨rfl, rfl⟩
      obtain ⟨pb, hpb⟩ : ∃ pb, Lib.hasPrefix value.data.toList (⟨#[117, 114, 110, 58, 98, 116, 105, 104, 58]⟩ : ByteArray).data.toList = pb := ⟨_, rfl⟩
      have hpb' : oldHash.isPrefixOf value.data.toList = pb := hpb
      rw [hpb'] at HE
      rw [hpb]
      clear hpb hpb'
      cases pb with
      | true =>
        have HE2 : Hid (placeE P 0 last key value = 224) := by rw [HE.out]; exact Lib.hid rfl
        clear HE
        go_wp2
        go_ret
        exact ⟨by rw [HE2.out]; rfl, HBB.out⟩
      | false =>
        have HE2 : Hid (placeE P 0 last key value = 0) := by rw [HE.out]; exact Lib.hid rfl
        clear HE
        go_wp2
        go_ret
        exact ⟨by rw [HE2.out]; rfl, HBB.out⟩
    · have hk0' : (k == 0) = false := by simpa using hk0
      have HE2 : Hid (placeE P 0 last key value = 223) := placeE_first (by rw [HK.out]; exact hk0)
      go_wp2
      go_ret
      exact ⟨by rw [HE2.out]; rfl, HBB.out⟩
  have hn0' : ((n : Int) == 0) = false := by simp; omega
  have hn1 : (0 : Int) < (n : Int) := by omega
  by_cases hk0 : k = 0
  · subst hk0
    have HE : Hid (placeE P n last key value = if oldHash.isPrefixOf value.data.toList = true then 224 else if 0 < n then 225 else 0) := placeE_xt HK.out
    go_wp2_with fail
    refine (Tryz.strings_HasPrefix value ⟨#[117, 114, 110, 58, 98, 116, 105, 104, 58]⟩ w1).mono ?_
    rintro e w2 ⟨rfl, rfl⟩
    obtain ⟨pb, hpb⟩ : ∃ pb, Lib.hasPrefix value.data.toList (⟨#[117, 114, 110, 58, 98, 116, 105, 104, 58]⟩ : ByteArray).data.toList = pb := ⟨_, rfl⟩
    have hpb' : oldHash.isPrefixOf value.data.toList = pb := hpb
    rw [hpb', if_pos (by omega : 0 < n)] at HE
    rw [hpb]
    clear hpb hpb'
    cases pb with
    | true =>
      have HE2 : Hid (placeE P n last key value = 224) := by rw [HE.out]; exact Lib.hid rfl
      clear HE
      go_wp2
      go_ret
      exact ⟨by rw [HE2.out]; rfl, HBB.out⟩
    | false =>
      have HE2 : Hid (placeE P n last key value = 225) := by rw [HE.out]; exact Lib.hid rfl
      clear HE
      go_wp2
      go_ret
      exact ⟨by rw [HE2.out]; rfl, HBB.out⟩
  have hk0' : (k == 0) = false := by simpa using hk0
  have HO := Lib.hid (placeE_other (P := P) (n := n) (last := last) (key := key) (value := value) (by rw [HK.out]; exact hk0) hn0)
  by_cases hlt : k < a
  · have HE2 : Hid (placeE P n last key value = 227) := by rw [HO.out]; unfold orderE; rw [HK.out, HA.out, if_pos hlt]; rfl
    go_wp2
    go_ret
    exact ⟨by rw [HE2.out]; rfl, HBB.out⟩
  obtain ⟨tb, htb⟩ : ∃ tb, hasB P.trackers value = tb := ⟨_, rfl⟩
  obtain ⟨pb, hpb⟩ : ∃ pb, hasB P.peers value = pb := ⟨_, rfl⟩
  have HE : Hid (placeE P n last key value = if ((k = 1 ∨ k = 2) ∧ a = k) ∨ (k = 3 ∧ tb = true) ∨ (k = 4 ∧ pb = true) ∨ (k = 5 ∧ last = key) then 225 else if k = 5 ∧ a = 5 ∧ lessB last key = false then 227 else 0) := by
    rw [HO.out]; unfold orderE; rw [HK.out, HA.out, if_neg (by omega), htb, hpb]; exact Lib.hid rfl
  have hct : ∀ w', SS w' P.trackers tv → Calls Tryz.prog 48 #[tv, .string value] w' fun e w'' => e = .returned (.bool tb) ∧ w'' = w' := fun w' h => by
    have := contains P.trackers value tv w' h; rw [htb] at this; exact this
  have hcp : ∀ w', SS w' P.peers pv → Calls Tryz.prog 48 #[pv, .string value] w' fun e w'' => e = .returned (.bool pb) ∧ w'' = w' := fun w' h => by
    have := contains P.peers value pv w' h; rw [hpb] at this; exact this
  have HCT := Lib.hid hct
  have HCP := Lib.hid hcp
  clear htb hpb hct hcp HO
  have hse := str_beq key last
  rcases (by omega : k = 1 ∨ k = 2 ∨ k = 3 ∨ k = 4 ∨ k = 5) with rfl | rfl | rfl | rfl | rfl
  · by_cases he : a = 1
    · subst he
      have hek : key = last := ((kind1 key).1 HK.out).trans ((kind1 last).1 HA.out).symm
      rw [decide_eq_true hek] at hse
      have HE2 : Hid (placeE P n last key value = 225) := by rw [HE.out]; simp [*, Hid]
      clear HE hek
      go_wp2
      go_ret
      exact ⟨by rw [HE2.out]; rfl, HBB.out⟩
    · have hek : ¬ key = last := fun h => he (by rw [← HA.out, ← h]; exact HK.out)
      rw [decide_eq_false hek] at hse
      have HE2 : Hid (placeE P n last key value = 0) := by rw [HE.out]; simp [*, Hid]
      clear HE hek
      go_wp2
      go_ret
      exact ⟨by rw [HE2.out]; rfl, HBB.out⟩
  · by_cases he : a = 2
    · subst he
      have hek : key = last := ((kind2 key).1 HK.out).trans ((kind2 last).1 HA.out).symm
      rw [decide_eq_true hek] at hse
      have HE2 : Hid (placeE P n last key value = 225) := by rw [HE.out]; simp [*, Hid]
      clear HE hek
      go_wp2
      go_ret
      exact ⟨by rw [HE2.out]; rfl, HBB.out⟩
    · have hek : ¬ key = last := fun h => he (by rw [← HA.out, ← h]; exact HK.out)
      rw [decide_eq_false hek] at hse
      have HE2 : Hid (placeE P n last key value = 0) := by rw [HE.out]; simp [*, Hid]
      clear HE hek
      go_wp2
      go_ret
      exact ⟨by rw [HE2.out]; rfl, HBB.out⟩
  · go_wp2_with fail
    refine (HCT.out w1 HT.out).mono ?_
    rintro e w2 ⟨rfl, rfl⟩
    cases tb with
    | true =>
      have HE2 : Hid (placeE P n last key value = 225) := by rw [HE.out]; simp [Hid]
      clear HE
      go_wp2
      go_ret
      exact ⟨by rw [HE2.out]; rfl, HBB.out⟩
    | false =>
      have HE2 : Hid (placeE P n last key value = 0) := by rw [HE.out]; simp [Hid]
      clear HE
      go_wp2
      go_ret
      exact ⟨by rw [HE2.out]; rfl, HBB.out⟩
  · go_wp2_with fail
    refine (HCP.out w1 HPE.out).mono ?_
    rintro e w2 ⟨rfl, rfl⟩
    cases pb with
    | true =>
      have HE2 : Hid (placeE P n last key value = 225) := by rw [HE.out]; simp [Hid]
      clear HE
      go_wp2
      go_ret
      exact ⟨by rw [HE2.out]; rfl, HBB.out⟩
    | false =>
      have HE2 : Hid (placeE P n last key value = 0) := by rw [HE.out]; simp [Hid]
      clear HE
      go_wp2
      go_ret
      exact ⟨by rw [HE2.out]; rfl, HBB.out⟩
  · by_cases he : last = key
    · rw [decide_eq_true he.symm] at hse
      have HE2 : Hid (placeE P n last key value = 225) := by rw [HE.out, if_pos (Or.inr (Or.inr (Or.inr ⟨rfl, he⟩)))]; rfl
      clear HE he
      go_wp2
      go_ret
      exact ⟨by rw [HE2.out]; rfl, HBB.out⟩
    · rw [decide_eq_false (fun h => he h.symm)] at hse
      have hse2 := str_beq last key
      rw [decide_eq_false he] at hse2
      have hno : ¬ (((((5 : Int) = 1 ∨ (5 : Int) = 2) ∧ a = 5) ∨ ((5 : Int) = 3 ∧ tb = true) ∨ ((5 : Int) = 4 ∧ pb = true) ∨ ((5 : Int) = 5 ∧ last = key))) := by
        rintro (⟨h | h, _⟩ | ⟨h, _⟩ | ⟨h, _⟩ | ⟨_, h⟩)
        · omega
        · omega
        · omega
        · omega
        · exact he h
      by_cases ha5 : a = 5
      · subst ha5
        cases hl : lessB last key with
        | false =>
          have HE2 : Hid (placeE P n last key value = 227) := by rw [HE.out, if_neg hno, if_pos ⟨rfl, rfl, hl⟩]; rfl
          unfold lessB at hl
          clear HE he hno
          go_wp2
          go_ret
          exact ⟨by rw [HE2.out]; rfl, HBB.out⟩
        | true =>
          have HE2 : Hid (placeE P n last key value = 0) := by rw [HE.out, if_neg hno, if_neg (by rw [hl]; simp)]; rfl
          unfold lessB at hl
          clear HE he hno
          go_wp2
          go_ret
          exact ⟨by rw [HE2.out]; rfl, HBB.out⟩
      · have ha' : (a == 5) = false := by simpa using ha5
        have HE2 : Hid (placeE P n last key value = 0) := by rw [HE.out, if_neg hno, if_neg (fun h => ha5 h.2.1)]; rfl
        clear HE he hno
        go_wp2
        go_ret
        exact ⟨by rw [HE2.out]; rfl, HBB.out⟩

end Go.Proofs.YtdfiblaboddbjaaGreatDoor.Prs
