import Derived.Test.YtdfiblaboddbjaaGreatDoorMagHas
import Derived.Test.YtdfiblaboddbjaaGreatDoorShelf
import Derived.IntWalk
namespace Go.Proofs.YtdfiblaboddbjaaGreatDoor.Has
open Go.RowKit Go.Proofs.YtdfiblaboddbjaaGreatDoor.Base Go.Proofs.YtdfiblaboddbjaaGreatDoor.Rep
set_option linter.unusedVariables false
set_option linter.unusedSimpArgs false

noncomputable def T (p : Prop) : Bool := @decide p (Classical.propDecidable p)
theorem T_true {p : Prop} (h : p) : T p = true := by unfold T; exact @decide_eq_true p (Classical.propDecidable p) h
theorem T_false {p : Prop} (h : ¬ p) : T p = false := by unfold T; exact @decide_eq_false p (Classical.propDecidable p) h
theorem T_iff {p : Prop} : T p = true ↔ p := by
  constructor
  · intro h
    exact Classical.byContradiction fun n => by rw [T_false n] at h; cases h
  · exact T_true
theorem T_iff_not {p : Prop} : T p = false ↔ ¬ p := by
  constructor
  · intro h k
    rw [T_true k] at h; cases h
  · exact T_false

/-- the kind of a key -/
def kindI (s : ByteArray) : Int := if s = ⟨#[120, 116]⟩ then 0 else if s = ⟨#[100, 110]⟩ then 1 else if s = ⟨#[115, 111]⟩ then 2 else if s = ⟨#[116, 114]⟩ then 3 else if s = ⟨#[120, 46, 112, 101]⟩ then 4 else 5

theorem rank_idx (s : ByteArray) : kindI s = if idxI [⟨#[120, 116]⟩, ⟨#[100, 110]⟩, ⟨#[115, 111]⟩, ⟨#[116, 114]⟩, ⟨#[120, 46, 112, 101]⟩] s < 0 then 5 else idxI [⟨#[120, 116]⟩, ⟨#[100, 110]⟩, ⟨#[115, 111]⟩, ⟨#[116, 114]⟩, ⟨#[120, 46, 112, 101]⟩] s := by
  unfold kindI idxI idx
  simp only [List.findIdx?_cons, List.findIdx?_nil, eq_comm (b := s)]
  by_cases e0 : s = ⟨#[120, 116]⟩
  · simp [e0]
  by_cases e1 : s = ⟨#[100, 110]⟩
  · simp [e0, e1]
  by_cases e2 : s = ⟨#[115, 111]⟩
  · simp [e0, e1, e2]
  by_cases e3 : s = ⟨#[116, 114]⟩
  · simp [e0, e1, e2, e3]
  by_cases e4 : s = ⟨#[120, 46, 112, 101]⟩
  · simp [e0, e1, e2, e3, e4]
  simp [e0, e1, e2, e3, e4]

set_option maxHeartbeats 1000000 in
set_option maxRecDepth 100000 in
theorem rank (s : ByteArray) (w : World) :
    Calls Tryz.prog 32 #[.string s] w fun e w' => e = .returned (.int .i64 (kindI s)) ∧ Below w.heap.size w w' := by
  have hr := rank_idx s
  go_enter Tryz.func32, Tryz.ntmps32
  go_wp2_with fail
  refine (index [⟨#[120, 116]⟩, ⟨#[100, 110]⟩, ⟨#[115, 111]⟩, ⟨#[116, 114]⟩, ⟨#[120, 46, 112, 101]⟩] s _ _ ?_).mono ?_
  · refine ⟨_, _, rfl, by decide, by unfold maxLen; decide, by decide, fun j x hj => ⟨_, _, rfl, ?_⟩⟩
    rw [Lib.cell_of_heap (Go.heap_alloc_new _ _)]
    match j, hj with
    | 0, hj => simp at hj; subst hj; rfl
    | 1, hj => simp at hj; subst hj; rfl
    | 2, hj => simp at hj; subst hj; rfl
    | 3, hj => simp at hj; subst hj; rfl
    | 4, hj => simp at hj; subst hj; rfl
    | j + 5, hj => simp at hj
  · rintro e w' ⟨rfl, rfl⟩
    generalize idxI [⟨#[120, 116]⟩, ⟨#[100, 110]⟩, ⟨#[115, 111]⟩, ⟨#[116, 114]⟩, ⟨#[120, 46, 112, 101]⟩] s = z at *
    by_cases hz : z < 0
    · rw [if_pos hz] at hr
      go_wp2
      go_ret
      exact ⟨by rw [hr]; rfl, (Below.refl _ _).alloc (Nat.le_refl _) _⟩
    · rw [if_neg hz] at hr
      go_wp2
      go_ret
      exact ⟨by rw [hr]; rfl, (Below.refl _ _).alloc (Nat.le_refl _) _⟩

/-- twice the same -/
def dupP (l : List ByteArray) : Prop := ∃ i, ∃ h : i < l.length, hasB (l.take i) l[i] = true

set_option maxHeartbeats 1000000 in
set_option maxRecDepth 100000 in
theorem again (l : List ByteArray) (v : Value) (w : World) (hl : SS w l v) :
    Calls Tryz.prog 31 #[v] w fun e w' => e = .returned (.bool (T (dupP l))) ∧ w' = w := by
  obtain ⟨a, c, rfl, hn, hcm, hn20, ha⟩ := hl
  have HA := Lib.hid ha
  clear ha
  go_enter Tryz.func31, Tryz.ntmps31
  go_wp2
  go_loop [7] (fun v7 => ∃ k : Nat, k ≤ l.length ∧ v7 = .int .i64 k ∧ Hid (∀ j (hj : j < k) (hj' : j < l.length), hasB (l.take j) l[j] = false)) (fun v7 => l.length - (intOf v7).toNat)
  case atStart => exact ⟨0, Nat.zero_le _, rfl, fun j hj => by omega⟩
  case round =>
    obtain ⟨k, hk, rfl, hno⟩ := hrel
    by_cases hlt : k < l.length
    · obtain ⟨b, o, rfl, hc⟩ := HA.out k l[k] (by simp [hlt])
      have hk0 : (0 : Int) ≤ (k : Int) := by omega
      have hk1 : (k : Int) < (l.length : Int) := by omega
      have hss : SS w (l.take k) (.slice (some ⟨b, o, none⟩) k c) := ⟨some ⟨b, o, none⟩, c, by simp [Nat.min_eq_left hk], by simp; omega, hcm, by simp; omega, fun j s hj => by
        have hjk : j < k := by
          rcases Nat.lt_or_ge j k with h | h
          · exact h
          · rw [List.getElem?_eq_none (by simp; omega)] at hj; cases hj
        rw [List.getElem?_take_of_lt hjk] at hj
        exact HA.out j s hj⟩
      have HSS := Lib.hid hss
      clear hss
      go_wp2_with fail
      refine (contains (l.take k) l[k] _ w HSS.out).mono ?_
      rintro e w' ⟨rfl, rfl⟩
      cases hh : hasB (l.take k) l[k] with
      | true =>
        go_wp2
        go_ret
        exact ⟨by first | rfl | (rw [T_true ⟨k, hlt, hh⟩]; rfl), rfl⟩
      | false =>
        go_wp2
        exact ⟨⟨k + 1, by omega, by go_num, fun j hj hj' => by
          by_cases e : j = k
          · subst e; exact hh
          · exact hno.out j (by omega) hj'⟩, by simp [intOf]; omega⟩
    · have hf : T (dupP l) = false := T_false (by rintro ⟨i, hi, h⟩; rw [hno.out i (by omega) hi] at h; cases h)
      go_wp2
      go_ret
      exact ⟨by first | rfl | (rw [hf]; rfl), rfl⟩

/-- Runs that are in order and do not touch; said of runs that are whole. -/
def whole (l : List (Int × Int)) : Prop := ∀ i (h : i < l.length), 0 ≤ l[i].1 ∧ l[i].1 < 4096 ∧ 1 ≤ l[i].2 ∧ l[i].2 ≤ 4096 - l[i].1
def apartP (l : List (Int × Int)) : Prop := ∀ i (h : i + 1 < l.length), l[i].1 + l[i].2 < l[i + 1].1

set_option maxHeartbeats 1000000 in
set_option maxRecDepth 100000 in
theorem apart (ok : Nat → Prop) (l : List (Int × Int)) (v : Value) (w : World) (hl : RR w ok l v) (hw : whole l) :
    Calls Tryz.prog 29 #[v] w fun e w' => e = .returned (.bool (T (apartP l))) ∧ Below w.heap.size w w' := by
  obtain ⟨a, c, rfl, hn, ⟨hcm, hn20, -⟩, ha⟩ := hl
  have HA := Lib.hid ha
  clear ha
  go_enter Tryz.func29, Tryz.ntmps29
  go_wp2
  go_loopw [3] (fun v3 wr => ∃ k : Nat, 1 ≤ k ∧ k ≤ l.length + 1 ∧ v3 = .int .i64 k ∧ Below w.heap.size w wr ∧ Hid (∀ j (hj : j + 1 < k) (hj' : j + 1 < l.length), l[j].1 + l[j].2 < l[j + 1].1)) (fun v3 _ => l.length + 1 - (intOf v3).toNat)
  case atStart => exact ⟨1, by omega, by omega, rfl, Below.refl _ _, fun j hj => by omega⟩
  case round =>
    obtain ⟨k, hk1, hk, rfl, hB, hno⟩ := hrel
    by_cases hlt : k < l.length
    · obtain ⟨q, rfl⟩ : ∃ q, k = q + 1 := ⟨k - 1, by omega⟩
      rcases HA.out with h0 | ⟨B, o, rfl, ha⟩
      · omega
      · have hcl := (ha (q + 1) l[q + 1] (by simp [hlt])).1.keep (Keeps.of_below hB)
        have hcl' := (ha q l[q] (by simp [show q < l.length by omega])).1.keep (Keeps.of_below hB)
        have x0 := hcl.cell 0 rfl
        have y0 := hcl'.cell 0 rfl
        have y1 := hcl'.cell 1 rfl
        simp only [Nat.add_zero] at x0 y0
        have hwq := hw q (by omega)
        have hwq1 := hw (q + 1) hlt
        clear ha hcl hcl'
        have e1 : IntKind.i64.wrap (((q + 1 : Nat) : Int) - 1) = (q : Int) := by rw [IntWalk.i64_in _ (by omega)]; omega
        have e2 : IntKind.i64.wrap (l[q].1 + l[q].2) = l[q].1 + l[q].2 := IntWalk.i64_in _ (by omega)
        have hk0 : (0 : Int) ≤ ((q + 1 : Nat) : Int) := by omega
        have hk1 : ((q + 1 : Nat) : Int) < (l.length : Int) := by omega
        have hk2 : (0 : Int) ≤ (q : Int) := by omega
        have hk3 : (q : Int) < (l.length : Int) := by omega
        have HW := Lib.hid hwq
        have HW1 := Lib.hid hwq1
        clear hwq hwq1
        by_cases hh : l[q].1 + l[q].2 < l[q + 1].1
        · have hh' : ¬ l[q + 1].1 ≤ l[q].1 + l[q].2 := by omega
          go_wp2_with fail
          go_quiet (fail)
          go_wp2
          exact ⟨⟨q + 1 + 1, by omega, by omega, by go_num, below_N hB _, fun j hj hj' => by
            by_cases e : j = q
            · subst e; exact hh
            · exact hno.out j (by omega) hj'⟩, by simp [intOf]; omega⟩
        · have hh' : l[q + 1].1 ≤ l[q].1 + l[q].2 := by omega
          have hf : T (apartP l) = false := T_false (fun h => hh (h q hlt))
          go_wp2_with fail
          go_quiet (fail)
          go_wp2
          go_ret
          exact ⟨by first | rfl | (rw [hf]; rfl), below_N hB _⟩
    · have hf : T (apartP l) = true := T_true (fun i hi => hno.out i (by omega) hi)
      go_wp2
      go_ret
      exact ⟨by first | rfl | (rw [hf]; rfl), hB⟩

end Go.Proofs.YtdfiblaboddbjaaGreatDoor.Has
