/-
  The program's number.
-/
import Derived.Test.YtdfiblaboddbjaaGreatDoorMagPgU
import Derived.Test.YtdfiblaboddbjaaGreatDoorMagTxt
namespace Go.Proofs.YtdfiblaboddbjaaGreatDoor.Prs
open Go.RowKit Go.Proofs.YtdfiblaboddbjaaGreatDoor.Base Go.Proofs.YtdfiblaboddbjaaGreatDoor.Rep Go.Proofs.YtdfiblaboddbjaaGreatDoor.Mag Go.Proofs.YtdfiblaboddbjaaGreatDoor.Has
set_option linter.unusedVariables false
set_option linter.unusedSimpArgs false

theorem var_keep {w w' : World} {nm : String} {cs : Array Value} (h : w.var? Tryz.prog nm = some cs) (hb : Below w.heap.size w w') : w'.var? Tryz.prog nm = some cs := by
  unfold World.var? at h ⊢
  cases hg : Tryz.prog.globalNamed nm with
  | none => rw [hg] at h; cases h
  | some g =>
    rw [hg] at h
    simp only [Option.bind_some] at h ⊢
    have hlt : g < w.heap.size := by
      rcases Nat.lt_or_ge g w.heap.size with h' | h'
      · exact h'
      · rw [Array.getElem?_eq_none h'] at h; cases h
    rw [hb.block g hlt]
    exact h

/-- What of the package variables Parse leans on. -/
structure Ground (w : World) : Prop where
  pt : PT w
  syn : ∃ tp p, w.var? Tryz.prog "strconv.ErrSyntax" = some #[.iface tp p]
  rng : ∃ tp p, w.var? Tryz.prog "strconv.ErrRange" = some #[.iface tp p]
  cut : ∃ m, 0 < w.heap.size ∧ w.cell? ⟨0, 0, none⟩ = some (.int .i64 m)

theorem Ground.keep {w w' : World} (h : Ground w) (hb : Below w.heap.size w w') : Ground w' := by
  obtain ⟨h1, ⟨t2, p2, h2⟩, ⟨t3, p3, h3⟩, ⟨m, h4, h5⟩⟩ := h
  refine ⟨h1.keep hb, ⟨t2, p2, var_keep h2 hb⟩, ⟨t3, p3, var_keep h3 hb⟩, ⟨m, Nat.lt_of_lt_of_le h4 hb.size, ?_⟩⟩
  unfold World.cell? at h5 ⊢
  rw [hb.block 0 h4]
  exact h5

def numI (l : List UInt8) : Int := match numS l with
  | some n => (n : Int)
  | none => 0
def numB (l : List UInt8) : Bool := (numS l).isSome

set_option maxHeartbeats 2000000 in
set_option maxRecDepth 100000 in
theorem number (s : ByteArray) (w : World) (hs : s.size ≤ 1048576) (hG : Ground w) :
    Calls Tryz.prog 78 #[.string s] w fun e w' => e = .returned (.tuple #[.int .i64 (numI s.data.toList), .bool (numB s.data.toList)]) ∧ Below w.heap.size w w' := by
  have HG := Lib.hid hG
  clear hG
  go_enter Tryz.func78, Tryz.ntmps78
  have none' : ∀ (v : Lib.NumEnd Int), Lib.atoiAll s.data.toList = v → (∀ n : Nat, v = .ok (n : Int) → 4096 ≤ n ∨ Lib.itoa (n : Int) ≠ s.data.toList) → Hid (numI s.data.toList = 0 ∧ numB s.data.toList = false) := fun v hv hn => by
    have : numS s.data.toList = none := by
      cases h : numS s.data.toList with
      | none => rfl
      | some n =>
        have h1 := numS_some h
        have h2 := atoi_num h
        rw [hv] at h2
        rcases hn n h2 with h3 | h3
        · omega
        · exact absurd h1.2.1 h3
    refine Lib.hid ⟨?_, ?_⟩
    · unfold numI; rw [this]
    · unfold numB; rw [this]; rfl
  rcases hv : Lib.atoiAll s.data.toList with v | _ | _
  rotate_left
  · 
    obtain ⟨hz, hb⟩ := (none' _ hv (fun n h => by cases h)).out
    have HZ : Hid (numI s.data.toList = 0) := hz
    have HB : Hid (numB s.data.toList = false) := hb
    clear hz hb none'
    obtain ⟨tp, p, hvar⟩ := HG.out.syn
    have HV := Lib.hid hvar
    clear hvar
    go_wp2_with fail
    refine (Tryz.strconv_Atoi_syntax_var s (by omega) (hv.trans rfl) tp p w HV.out).mono ?_
    rintro e w1 ⟨N, rfl, _, _, hB⟩
    clear hv
    go_wp2
    go_ret2
    exact ⟨by rw [HZ.out, HB.out]; rfl, hB⟩
  · 
    obtain ⟨hz, hb⟩ := (none' _ hv (fun n h => by cases h)).out
    have HZ : Hid (numI s.data.toList = 0) := hz
    have HB : Hid (numB s.data.toList = false) := hb
    clear hz hb none'
    obtain ⟨tp, p, hvar⟩ := HG.out.rng
    have HV := Lib.hid hvar
    clear hvar
    go_wp2_with fail
    refine (Tryz.strconv_Atoi_range_var s (by omega) hv tp p w HV.out).mono ?_
    rintro e w1 ⟨N, rfl, _, _, hB⟩
    clear hv
    go_wp2
    go_ret2
    exact ⟨by rw [HZ.out, HB.out]; rfl, hB⟩
  · 
    have hbd := Lib.atoiAll_bounds hv
    have NONE := Lib.hid none'
    have HV := Lib.hid hv
    clear none' hv
    go_wp2_with fail
    refine (Tryz.strconv_Atoi_ok s (by omega) v HV.out w).mono ?_
    rintro e w1 ⟨rfl, hw1⟩
    have hB1 : Below w.heap.size w w1 := by
      rcases hw1 with rfl | ⟨t, rfl⟩
      · exact Below.refl _ _
      · exact Lib.bytesWorld_below w _ t
    have HP : Hid (PT w1) := HG.out.pt.keep hB1
    have HB1 := Lib.hid hB1
    clear hw1 hB1
    by_cases h0 : v < 0
    · obtain ⟨hz, hb⟩ := (NONE.out _ HV.out (fun n h => by injection h with h; omega)).out
      have HZ : Hid (numI s.data.toList = 0) := hz
      have HB : Hid (numB s.data.toList = false) := hb
      clear hz hb
      go_wp2
      go_ret2
      exact ⟨by rw [HZ.out, HB.out]; rfl, HB1.out⟩
    by_cases h4 : 4096 ≤ v
    · obtain ⟨hz, hb⟩ := (NONE.out _ HV.out (fun n h => by injection h with h; omega)).out
      have HZ : Hid (numI s.data.toList = 0) := hz
      have HB : Hid (numB s.data.toList = false) := hb
      clear hz hb
      go_wp2
      go_ret2
      exact ⟨by rw [HZ.out, HB.out]; rfl, HB1.out⟩
    obtain ⟨n, rfl⟩ : ∃ n : Nat, v = (n : Int) := ⟨v.toNat, by omega⟩
    have hn4 : n < 4096 := by omega
    obtain ⟨z, hz⟩ : ∃ z : ByteArray, z = ⟨(Lib.itoa (n : Int)).toArray⟩ := ⟨_, rfl⟩
    have hzl : z.toList = Lib.itoa (n : Int) := by rw [hz, Lib.toList_data]
    have HIT : Hid (Calls Tryz.prog 56 #[.int .i64 (n : Int)] w1 fun e w' => e = .returned (.string z) ∧ Below w1.heap.size w1 w') := by rw [hz]; exact itoaC _ hbd.1 hbd.2 w1 HP.out
    have HZL := Lib.hid hzl
    clear hz hzl
    go_wp2_with fail
    refine HIT.out.mono ?_
    rintro e w2 ⟨rfl, hB2⟩
    have HB2 : Hid (Below w.heap.size w w2) := HB1.out.trans (hB2.mono HB1.out.size)
    clear hB2
    by_cases he : z = s
    · subst he
      have hnum : numS z.data.toList = some n := by rw [← Lib.toList_data, HZL.out]; exact numS_itoa hn4
      have HZ : Hid (numI z.data.toList = n) := by unfold numI; rw [hnum]; rfl
      have HB : Hid (numB z.data.toList = true) := by unfold numB; rw [hnum]; rfl
      clear hnum
      go_wp2
      go_ret2
      exact ⟨by rw [HZ.out, HB.out]; rfl, HB2.out⟩
    · have hne : (z.toList == s.toList) = false := by rw [str_beq]; simpa using he
      obtain ⟨hz, hb⟩ := (NONE.out _ HV.out (fun m h => by
        injection h with h
        obtain rfl : n = m := by omega
        right
        intro e
        apply he
        rw [← HZL.out, Lib.toList_data] at e
        exact ByteArray.ext (Array.ext' e))).out
      have HZ : Hid (numI s.data.toList = 0) := hz
      have HB : Hid (numB s.data.toList = false) := hb
      clear hz hb
      go_wp2
      go_ret2
      exact ⟨by rw [HZ.out, HB.out]; rfl, HB2.out⟩

end Go.Proofs.YtdfiblaboddbjaaGreatDoor.Prs
