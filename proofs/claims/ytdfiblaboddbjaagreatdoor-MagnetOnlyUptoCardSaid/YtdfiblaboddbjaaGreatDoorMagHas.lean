import Derived.Test.YtdfiblaboddbjaaGreatDoorMagRep
import Derived.Test.YtdfiblaboddbjaaGreatDoorProg
import Derived.KernelRfl
import Derived.Handy
import Derived.Deep.RegionHeld3
import Derived.Deep.QuietTactic
import Derived.BigQuiet
import Derived.Lib.Bytealg
namespace Go.Proofs.YtdfiblaboddbjaaGreatDoor.Has
open Go.RowKit Go.Proofs.YtdfiblaboddbjaaGreatDoor.Base Go.Proofs.YtdfiblaboddbjaaGreatDoor.Rep
set_option linter.unusedVariables false
set_option linter.unusedSimpArgs false

/-- n texts, in whatever block. -/
def SS (w : World) (l : List ByteArray) (v : Value) : Prop := ∃ a c, v = .slice a l.length c ∧ l.length ≤ c ∧ c ≤ maxLen ∧ l.length ≤ 1048576 ∧ ∀ (j : Nat) (s : ByteArray), l[j]? = some s → ∃ b o, a = some ⟨b, o, none⟩ ∧ w.cell? ⟨b, o + j, none⟩ = some (.string s)

theorem SS.of {w : World} {ok : Nat → Prop} {l : List ByteArray} {v : Value} (h : RS w ok l v) : SS w l v := by
  obtain ⟨a, c, rfl, hn, ⟨hc, h20, _⟩, hh⟩ := h
  refine ⟨a, c, rfl, hn, hc, h20, fun j s hj => ?_⟩
  rcases hh with h0 | ⟨b, o, rfl, h⟩
  · rw [List.length_eq_zero_iff.1 h0] at hj; simp at hj
  · exact ⟨b, o, rfl, by have := (h j s hj).1.cell 0 rfl; simpa using this⟩

theorem str_beq (a b : ByteArray) : (a.toList == b.toList) = decide (a = b) := by
  by_cases e : a = b
  · subst e; simp
  · have : ¬ a.toList = b.toList := fun h => e (by
      rw [Lib.toList_data, Lib.toList_data] at h
      cases a; cases b; simp at h; simp [h])
    simp [e, this]

def idx (l : List ByteArray) (s : ByteArray) : Option Nat := l.findIdx? (fun t => decide (t = s))
theorem idx_hit (l : List ByteArray) (s : ByteArray) (k : Nat) (hk : k < l.length) (h : l[k] = s) (hn : ∀ j (hj : j < k), (l[j]'(by omega)) ≠ s) : idx l s = some k := by
  unfold idx
  rw [List.findIdx?_eq_some_iff_getElem]
  exact ⟨hk, by simpa using h, fun j hj => by simpa using hn j hj⟩
theorem idx_miss (l : List ByteArray) (s : ByteArray) (hn : ∀ j (hj : j < l.length), l[j] ≠ s) : idx l s = none := by
  unfold idx
  rw [List.findIdx?_eq_none_iff]
  intro x hx
  obtain ⟨j, hj, rfl⟩ := List.getElem_of_mem hx
  simpa using hn j hj
def hasB (l : List ByteArray) (s : ByteArray) : Bool := (idx l s).isSome
def idxI (l : List ByteArray) (s : ByteArray) : Int := match idx l s with | some k => k | none => -1

set_option maxHeartbeats 1000000 in
set_option maxRecDepth 100000 in
theorem index (l : List ByteArray) (s : ByteArray) (v : Value) (w : World) (hl : SS w l v) :
    Calls Tryz.prog 51 #[v, .string s] w fun e w' => e = .returned (.int .i64 (idxI l s)) ∧ w' = w := by
  obtain ⟨a, c, rfl, hn, hcm, hn20, ha⟩ := hl
  have HA := Lib.hid ha
  clear ha
  go_enter Tryz.func51, Tryz.ntmps51
  go_wp2
  go_loop [8] (fun v8 => ∃ k : Nat, k ≤ l.length ∧ v8 = .int .i64 k ∧ Hid (∀ j (hj : j < k) (hj' : j < l.length), l[j] ≠ s)) (fun v8 => l.length - (intOf v8).toNat)
  case atStart => exact ⟨0, Nat.zero_le _, rfl, fun j hj => by omega⟩
  case round =>
    obtain ⟨k, hk, rfl, hno⟩ := hrel
    by_cases hlt : k < l.length
    · obtain ⟨b, o, rfl, hc⟩ := HA.out k l[k] (by simp [hlt])
      have hk0 : (0 : Int) ≤ (k : Int) := by omega
      have hk1 : (k : Int) < (l.length : Int) := by omega
      by_cases he : l[k] = s
      · have hi := idx_hit l s k hlt he (fun j hj => hno.out j hj (by omega))
        have hb : (s.toList == l[k].toList) = true := by rw [str_beq]; simpa using he.symm
        go_wp2
        go_ret
        exact ⟨by simp [idxI, hi], rfl⟩
      · have hb : (s.toList == l[k].toList) = false := by rw [str_beq]; simpa using fun h => he h.symm
        go_wp2
        exact ⟨⟨k + 1, by omega, by go_num, fun j hj hj' => by
          by_cases e : j = k
          · subst e; exact he
          · exact hno.out j (by omega) hj'⟩, by simp [intOf]; omega⟩
    · have hi := idx_miss l s (fun j hj => hno.out j (by omega) hj)
      go_wp2
      go_ret
      exact ⟨by simp [idxI, hi], rfl⟩

set_option maxHeartbeats 1000000 in
set_option maxRecDepth 100000 in
theorem contains (l : List ByteArray) (s : ByteArray) (v : Value) (w : World) (hl : SS w l v) :
    Calls Tryz.prog 48 #[v, .string s] w fun e w' => e = .returned (.bool (hasB l s)) ∧ w' = w := by
  go_enter Tryz.func48, Tryz.ntmps48
  go_wp2_with fail
  refine (index l s v w hl).mono ?_
  rintro e w' ⟨rfl, rfl⟩
  have hi : idxI l s = match idx l s with | some k => (k : Int) | none => -1 := rfl
  cases hh : idx l s with
  | none =>
    rw [hh] at hi
    simp only at hi
    go_wp2
    go_ret
    exact ⟨by simp [hasB, hh], rfl⟩
  | some k =>
    rw [hh] at hi
    simp only at hi
    have h0 : ¬ (k : Int) < 0 := by omega
    go_wp2
    go_ret
    exact ⟨by simp [hasB, hh], rfl⟩

end Go.Proofs.YtdfiblaboddbjaaGreatDoor.Has
