/-
  The document's ordered.
-/
import Derived.Test.YtdfiblaboddbjaaDoorMagPrsS
import Derived.Laws.Cover1
namespace Go.Proofs.YtdfiblaboddbjaaDoor.Prs
open Go.RowKit Go.Proofs.YtdfiblaboddbjaaDoor.Base Go.Proofs.YtdfiblaboddbjaaDoor.Rep Go.Proofs.YtdfiblaboddbjaaDoor.Mag Go.Proofs.YtdfiblaboddbjaaDoor.Has
set_option linter.unusedVariables false
set_option linter.unusedSimpArgs false

theorem kindI_range (s : ByteArray) : 0 ≤ kindI s ∧ kindI s ≤ 5 := by
  unfold kindI
  repeat' split
  all_goals omega

/-- The rules of order and of parameters twice, of a key that is not xt. -/
noncomputable def orderE (tl pl : List ByteArray) (last key value : ByteArray) : Int :=
  if kindI key < kindI last then 227
  else if ((kindI key = 1 ∨ kindI key = 2) ∧ kindI last = kindI key) ∨ (kindI key = 3 ∧ hasB tl value = true) ∨ (kindI key = 4 ∧ hasB pl value = true) ∨ (kindI key = 5 ∧ last = key) then 225
  else if kindI key = 5 ∧ kindI last = 5 ∧ lessB last key = false then 227
  else 0

set_option maxHeartbeats 8000000 in
set_option maxRecDepth 100000 in
theorem rordered (X : Lk) (tv pv ov mv : Value) (last key value : ByteArray) (w : World) (hi : X.info.length = 32) (hT : SS w X.trackers tv) (hP : SS w X.peers pv) (hk0 : kindI key ≠ 0) :
    Calls Tryd.prog 72 #[.agg (lcells X tv pv ov mv).toArray, .string last, .string key, .string value] w fun e w' => e = .returned (.int .i64 (orderE X.trackers X.peers last key value)) ∧ Below w.heap.size w w' := by
  have hB0 : Below w.heap.size w (w.alloc (.cells (lcells X tv pv ov mv).toArray 28)) := (Below.refl _ _).alloc (Nat.le_refl _) _
  have hA : Lb (w.alloc (.cells (lcells X tv pv ov mv).toArray 28)) w.heap.size 28 X tv pv ov mv := heap_alloc_new w _
  have hkeep : ∀ {l : List ByteArray} {v : Value} {w' : World}, SS w l v → Below w.heap.size w w' → SS w' l v := fun {l v w'} h hb => by
    obtain ⟨a, c, e, h1, h2, h3, h4⟩ := h
    refine ⟨a, c, e, h1, h2, h3, fun j s hj => ?_⟩
    obtain ⟨b, o, e', hc⟩ := h4 j s hj
    exact ⟨b, o, e', (hb.cell (p := ⟨b, o + j, none⟩) (World.block_lt_of_cell? w _ hc)).trans hc⟩
  obtain ⟨W0, hW0⟩ : ∃ W0, w.alloc (.cells (lcells X tv pv ov mv).toArray 28) = W0 := ⟨_, rfl⟩
  rw [hW0] at hB0 hA
  have hT' := Lib.hid (hkeep hT hB0)
  have hP' := Lib.hid (hkeep hP hB0)
  have c33 := hA.cell 33
  rw [lcells_33 hi] at c33
  have c34 := hA.cell 34
  rw [lcells_34 hi] at c34
  clear hA hT hP hkeep
  obtain ⟨k, hk⟩ : ∃ k, kindI key = k := ⟨_, rfl⟩
  obtain ⟨a, ha⟩ : ∃ a, kindI last = a := ⟨_, rfl⟩
  have hkr := kindI_range key
  have har := kindI_range last
  have h1 := rkind last W0
  have h2 := rkind key W0
  rw [ha] at h1 har
  rw [hk] at h2 hkr hk0
  have HC1 := Lib.hid h1
  have HC2 := Lib.hid h2
  have HK := Lib.hid hk
  have HA := Lib.hid ha
  clear h1 h2 hk ha
  go_enter Tryd.func72, Tryd.ntmps72
  go_wp2_with fail
  refine HC1.out.mono ?_
  rintro e w1 ⟨rfl, rfl⟩
  go_wp2_with fail
  refine HC2.out.mono ?_
  rintro e w1 ⟨rfl, rfl⟩
  by_cases hlt : k < a
  · have HE : Hid (orderE X.trackers X.peers last key value = 227) := by unfold orderE; rw [HK.out, HA.out, if_pos hlt]; rfl
    go_wp2
    go_ret
    exact ⟨by rw [HE.out]; rfl, hB0⟩
  go_wp2_with fail
  refine (rwithin X.trackers value tv _ hT'.out).mono ?_
  rintro e w1 ⟨rfl, rfl⟩
  go_wp2_with fail
  refine (rwithin X.peers value pv _ hP'.out).mono ?_
  rintro e w1 ⟨rfl, rfl⟩
  obtain ⟨tb, htb⟩ : ∃ tb, hasB X.trackers value = tb := ⟨_, rfl⟩
  obtain ⟨pb, hpb⟩ : ∃ pb, hasB X.peers value = pb := ⟨_, rfl⟩
  rw [htb, hpb]
  have HTB := Lib.hid htb
  have HPB := Lib.hid hpb
  clear htb hpb
  have HE : Hid (orderE X.trackers X.peers last key value = if ((k = 1 ∨ k = 2) ∧ a = k) ∨ (k = 3 ∧ tb = true) ∨ (k = 4 ∧ pb = true) ∨ (k = 5 ∧ last = key) then 225 else if k = 5 ∧ a = 5 ∧ lessB last key = false then 227 else 0) := by
    unfold orderE; rw [HK.out, HA.out, if_neg (by omega), HTB.out, HPB.out]; exact Lib.hid rfl
  rcases (by omega : k = 1 ∨ k = 2 ∨ k = 3 ∨ k = 4 ∨ k = 5) with rfl | rfl | rfl | rfl | rfl
  · by_cases he : a = 1
    · subst he
      have HE2 : Hid (orderE X.trackers X.peers last key value = 225) := by rw [HE.out]; simp [*, Hid]
      clear HE
      go_wp2
      go_ret
      exact ⟨by rw [HE2.out]; rfl, hB0⟩
    · have he' : (a == 1) = false := by simpa using he
      have HE2 : Hid (orderE X.trackers X.peers last key value = 0) := by rw [HE.out]; simp [*, Hid]
      clear HE
      go_wp2
      go_ret
      exact ⟨by rw [HE2.out]; rfl, hB0⟩
  · by_cases he : a = 2
    · subst he
      have HE2 : Hid (orderE X.trackers X.peers last key value = 225) := by rw [HE.out]; simp [*, Hid]
      clear HE
      go_wp2
      go_ret
      exact ⟨by rw [HE2.out]; rfl, hB0⟩
    · have he' : (a == 2) = false := by simpa using he
      have HE2 : Hid (orderE X.trackers X.peers last key value = 0) := by rw [HE.out]; simp [*, Hid]
      clear HE
      go_wp2
      go_ret
      exact ⟨by rw [HE2.out]; rfl, hB0⟩
  · cases tb with
    | true =>
      have HE2 : Hid (orderE X.trackers X.peers last key value = 225) := by rw [HE.out]; simp [*, Hid]
      clear HE
      go_wp2
      go_ret
      exact ⟨by rw [HE2.out]; rfl, hB0⟩
    | false =>
      have HE2 : Hid (orderE X.trackers X.peers last key value = 0) := by rw [HE.out]; simp [*, Hid]
      clear HE
      go_wp2
      go_ret
      exact ⟨by rw [HE2.out]; rfl, hB0⟩
  · cases pb with
    | true =>
      have HE2 : Hid (orderE X.trackers X.peers last key value = 225) := by rw [HE.out]; simp [*, Hid]
      clear HE
      go_wp2
      go_ret
      exact ⟨by rw [HE2.out]; rfl, hB0⟩
    | false =>
      have HE2 : Hid (orderE X.trackers X.peers last key value = 0) := by rw [HE.out]; simp [*, Hid]
      clear HE
      go_wp2
      go_ret
      exact ⟨by rw [HE2.out]; rfl, hB0⟩
  · have hse := str_beq last key
    by_cases he : last = key
    · rw [decide_eq_true he] at hse
      have HE2 : Hid (orderE X.trackers X.peers last key value = 225) := by rw [HE.out, if_pos (Or.inr (Or.inr (Or.inr ⟨rfl, he⟩)))]; rfl
      clear HE he
      go_wp2
      go_ret
      exact ⟨by rw [HE2.out]; rfl, hB0⟩
    · rw [decide_eq_false he] at hse
      have hno : ¬ (((((5 : Int) = 1 ∨ (5 : Int) = 2) ∧ a = 5) ∨ ((5 : Int) = 3 ∧ tb = true) ∨ ((5 : Int) = 4 ∧ pb = true) ∨ ((5 : Int) = 5 ∧ last = key))) := by
        rintro (⟨h | h, _⟩ | ⟨h, _⟩ | ⟨h, _⟩ | ⟨_, h⟩)
        · omega
        · omega
        · omega
        · omega
        · exact he h
      by_cases ha5 : a = 5
      · subst ha5
        cases hl : lessB last key with
        | false =>
          have HE2 : Hid (orderE X.trackers X.peers last key value = 227) := by rw [HE.out, if_neg hno, if_pos ⟨rfl, rfl, hl⟩]; rfl
          unfold lessB at hl
          clear HE he hno
          go_wp2
          go_ret
          exact ⟨by rw [HE2.out]; rfl, hB0⟩
        | true =>
          have HE2 : Hid (orderE X.trackers X.peers last key value = 0) := by rw [HE.out, if_neg hno, if_neg (by rw [hl]; simp)]; rfl
          unfold lessB at hl
          clear HE he hno
          go_wp2
          go_ret
          exact ⟨by rw [HE2.out]; rfl, hB0⟩
      · have ha' : (a == 5) = false := by simpa using ha5
        have HE2 : Hid (orderE X.trackers X.peers last key value = 0) := by rw [HE.out, if_neg hno, if_neg (fun h => ha5 h.2.1)]; rfl
        clear HE he hno
        go_wp2
        go_ret
        exact ⟨by rw [HE2.out]; rfl, hB0⟩

end Go.Proofs.YtdfiblaboddbjaaDoor.Prs
