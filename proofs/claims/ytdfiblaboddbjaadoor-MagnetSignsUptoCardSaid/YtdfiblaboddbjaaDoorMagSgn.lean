/-
  MagnetSigns: the law's walk.
-/
import Derived.Test.YtdfiblaboddbjaaDoorMagAwk
namespace Go.Proofs.YtdfiblaboddbjaaDoor.Prs
open Go.RowKit Go.Proofs.YtdfiblaboddbjaaDoor.Base Go.Proofs.YtdfiblaboddbjaaDoor.Rep Go.Proofs.YtdfiblaboddbjaaDoor.Mag Go.Proofs.YtdfiblaboddbjaaDoor.Has
set_option linter.unusedVariables false
set_option linter.unusedSimpArgs false

def unescW : Except Nat (List UInt8) → Value
  | .ok l => .tuple #[.string ⟨l.toArray⟩, .int .i64 0]
  | .error i => .tuple #[.string ⟨#[]⟩, .int .i64 222]

set_option maxHeartbeats 1000000 in
theorem unescapeP (s : ByteArray) (w : World) (hs : s.size ≤ 1099511627776) :
    Calls Tryd.prog 18 #[.string s] w fun e w' => e = .returned (unescW (une 0 s.data.toList)) ∧ Below w.heap.size w w' := by
  go_enter Tryd.func18, Tryd.ntmps18
  go_wp2_with fail
  refine (plain s _ hs).mono ?_
  rintro e w1 ⟨rfl, hb1⟩
  cases h : une 0 s.data.toList with
  | ok l =>
    simp only [uneV]
    go_wp2
    go_ret2
    exact ⟨by rw [h]; rfl, hb1⟩
  | error i =>
    simp only [uneV]
    have hi : decide ((i : Int) ≥ 0) = true := by simp
    go_wp2
    go_ret2
    exact ⟨by rw [h]; rfl, hb1⟩

theorem esc_byte {l : List UInt8} {c : UInt8} (h : c ∈ escL l) : 32 < c.toNat ∧ c.toNat < 127 ∧ c.toNat ≠ 38 ∧ c.toNat ≠ 61 ∧ c.toNat ≠ 35 ∧ c.toNat ≠ 43 ∧ c.toNat ≠ 34 ∧ c.toNat ≠ 60 ∧ c.toNat ≠ 62 := by
  have key : ∀ m : Fin 256, bareB (UInt8.ofNat m.1).toNat = true → 32 < (UInt8.ofNat m.1).toNat ∧ (UInt8.ofNat m.1).toNat < 127 ∧ (UInt8.ofNat m.1).toNat ≠ 38 ∧ (UInt8.ofNat m.1).toNat ≠ 61 ∧ (UInt8.ofNat m.1).toNat ≠ 35 ∧ (UInt8.ofNat m.1).toNat ≠ 43 ∧ (UInt8.ofNat m.1).toNat ≠ 34 ∧ (UInt8.ofNat m.1).toNat ≠ 60 ∧ (UInt8.ofNat m.1).toNat ≠ 62 := by decide +kernel
  rcases esc_mem h with h1 | rfl
  · have := key ⟨c.toNat, UInt8.toNat_lt c⟩
    simp only [UInt8.ofNat_toNat] at this
    exact this h1
  · decide

def escA (s : ByteArray) : ByteArray := ⟨(escL s.data.toList).toArray⟩
theorem escA_size (s : ByteArray) : (escA s).size ≤ 3 * s.size := by
  have h := escL_len s.data.toList
  have e : s.data.toList.length = s.size := by simp
  rw [e] at h
  show (escL s.data.toList).toArray.size ≤ _
  rw [List.size_toArray]; exact h
theorem escA_app (a b : ByteArray) : escA (a ++ b) = escA a ++ escA b := by
  apply ByteArray.ext
  apply Array.ext'
  show escL (a ++ b).data.toList = _
  rw [data_app, data_app, esc_app]; rfl
theorem escA_inj (a b : ByteArray) : escA a = escA b ↔ a = b := by
  constructor
  · intro h
    have h1 : escL a.data.toList = escL b.data.toList := congrArg (fun x : ByteArray => x.data.toList) h
    have h2 := esc_inj h1
    rw [← ba_eta a, ← ba_eta b, h2]
  · intro h; rw [h]
theorem une_escA (a : ByteArray) : une 0 (escA a).data.toList = .ok a.data.toList := une_esc _ 0

theorem esc_bytes {a X : ByteArray} (h : escA a = X) : ∀ k (hk : k < X.size), 32 < X[k].toNat ∧ X[k].toNat < 127 ∧ X[k].toNat ≠ 38 ∧ X[k].toNat ≠ 61 ∧ X[k].toNat ≠ 35 ∧ X[k].toNat ≠ 43 ∧ X[k].toNat ≠ 34 ∧ X[k].toNat ≠ 60 ∧ X[k].toNat ≠ 62 := by
  subst h
  intro k hk
  refine esc_byte (l := a.data.toList) ?_
  have hk' : k < (escL a.data.toList).length := by
    have : (escA a).size = (escL a.data.toList).length := by show (escL a.data.toList).toArray.size = _; rw [List.size_toArray]
    omega
  exact List.getElem_mem hk'

set_option maxHeartbeats 8000000 in
set_option maxRecDepth 100000 in
theorem signsLaw (a b : ByteArray) (w : World) (ha : a.size ≤ 1048576) (hb : b.size ≤ 1048576) (hG : Ground w) :
    Calls Tryd.prog 6 #[.string a, .string b] w fun e w' => e = .returned (.bool true) ∧ Below w.heap.size w w' := by
  have hsa := escA_size a
  have hsb := escA_size b
  have hX : ∀ w', Calls Tryd.prog 17 #[.string a] w' fun e w'' => e = .returned (.string (escA a)) ∧ Below w'.heap.size w' w'' := fun w' => escape a w' (by omega)
  have hY : ∀ w', Calls Tryd.prog 17 #[.string b] w' fun e w'' => e = .returned (.string (escA b)) ∧ Below w'.heap.size w' w'' := fun w' => escape b w' (by omega)
  have hZ : ∀ w', Calls Tryd.prog 17 #[.string (a ++ b)] w' fun e w'' => e = .returned (.string (escA a ++ escA b)) ∧ Below w'.heap.size w' w'' := fun w' => by
    have := escape (a ++ b) w' (by rw [ByteArray.size_append]; omega)
    rw [← escA_app]; exact this
  have hU : ∀ w', Calls Tryd.prog 18 #[.string (escA a)] w' fun e w'' => e = .returned (.tuple #[.string a, .int .i64 0]) ∧ Below w'.heap.size w' w'' := fun w' => by
    have := unescapeP (escA a) w' (by omega)
    rw [une_escA] at this
    have e : unescW (.ok a.data.toList) = .tuple #[.string a, .int .i64 0] := by
      show Value.tuple #[.string ⟨a.data.toList.toArray⟩, .int .i64 0] = _
      rw [ba_eta]
    rw [e] at this
    exact this
  have hV : ∀ w', Calls Tryd.prog 18 #[.string b] w' fun e w'' => e = .returned (unescW (une 0 b.data.toList)) ∧ Below w'.heap.size w' w'' := fun w' => unescapeP b w' (by omega)
  have hxy : ((escA a).toList == (escA b).toList) = decide (a = b) := by
    rw [str_beq]
    exact decide_eq_decide.2 (escA_inj a b)
  have hab : (a.toList == b.toList) = decide (a = b) := str_beq a b
  obtain ⟨X, hXX⟩ : ∃ X, escA a = X := ⟨_, rfl⟩
  obtain ⟨Y, hYY⟩ : ∃ Y, escA b = Y := ⟨_, rfl⟩
  rw [hXX] at hsa hX hZ hU hxy
  rw [hYY] at hsb hY hZ hxy
  have hbyte := esc_bytes hXX
  clear hXX hYY
  have HX := Lib.hid hX
  have HY := Lib.hid hY
  have HZ := Lib.hid hZ
  have HU := Lib.hid hU
  have HV := Lib.hid hV
  have HBY := Lib.hid hbyte
  have HA := Lib.hid (awake w hG)
  clear hX hY hZ hU hV hbyte hG
  go_enter Tryd.func6, Tryd.ntmps6
  go_wp2_with fail
  refine HA.out.mono ?_
  rintro e w0 ⟨rfl, hb0⟩
  have HB0 := Lib.hid hb0
  clear hb0
  go_wp2_with fail
  refine (HX.out w0).mono ?_
  rintro e w1 ⟨rfl, hb1⟩
  have HB1 : Hid (Below w.heap.size w w1) := HB0.out.trans (hb1.mono HB0.out.size)
  clear hb1
  go_wp2_with fail
  refine (HY.out w1).mono ?_
  rintro e w2 ⟨rfl, hb2⟩
  have HB2 : Hid (Below w.heap.size w w2) := HB1.out.trans (hb2.mono HB1.out.size)
  clear hb2
  go_wp2_with fail
  refine (HZ.out w2).mono ?_
  rintro e w3 ⟨rfl, hb3⟩
  have HB3 : Hid (Below w.heap.size w w3) := HB2.out.trans (hb3.mono HB2.out.size)
  clear hb3
  go_wp2_with fail
  refine (HU.out w3).mono ?_
  rintro e w4 ⟨rfl, hb4⟩
  have HB4 : Hid (Below w.heap.size w w4) := HB3.out.trans (hb4.mono HB3.out.size)
  clear hb4
  go_wp2_with fail
  refine (numC 0 _).mono ?_
  rintro e w' ⟨rfl, hw⟩
  obtain rfl := hw.symm
  clear hw
  have hsz : X.size ≤ 9223372036854775807 := by omega
  obtain ⟨dd, hdd⟩ : ∃ dd, decide (a = b) = dd := ⟨_, rfl⟩
  rw [hdd] at hxy hab
  clear hdd
  cases dd
  all_goals
    go_wp2_with fail
    clear hxy hab
    go_loop [11] (fun v11 => ∃ k : Nat, k ≤ X.size ∧ v11 = .int .i64 (k : Int)) (fun v11 => X.size - (intOf v11).toNat)
    case atStart => exact ⟨0, Nat.zero_le _, rfl⟩
    case round =>
      obtain ⟨k, hk, rfl⟩ := hrel
      by_cases hlt : k < X.size
      · obtain ⟨q1, q2, q3, q4, q5, q6, q7, q8, q9⟩ := HBY.out k hlt
        have f1 : (32 : Int) < (X[k].toNat : Int) := by omega
        have f2 : (X[k].toNat : Int) < 127 := by omega
        have f3 : ((X[k].toNat : Int) == 38) = false := by simp; omega
        have f4 : ((X[k].toNat : Int) == 61) = false := by simp; omega
        have f5 : ((X[k].toNat : Int) == 35) = false := by simp; omega
        have f6 : ((X[k].toNat : Int) == 43) = false := by simp; omega
        have f7 : ((X[k].toNat : Int) == 34) = false := by simp; omega
        have f8 : ((X[k].toNat : Int) == 60) = false := by simp; omega
        have f9 : ((X[k].toNat : Int) == 62) = false := by simp; omega
        clear q1 q2 q3 q4 q5 q6 q7 q8 q9
        go_wp2
        go_round
        case rel => exact ⟨k + 1, by omega, by go_num⟩
        case measure => simp [intOf]; omega
      · obtain rfl : k = X.size := by omega
        go_wp2_with fail
        refine (HV.out _).mono ?_
        rintro e w5 ⟨rfl, hb5⟩
        have HB5 : Hid (Below w.heap.size w w5) := HB4.out.trans (hb5.mono HB4.out.size)
        clear hb5
        cases hu : une 0 b.data.toList with
        | error i =>
          clear hu
          unfold unescW
          go_wp2_with fail
          refine (numC 222 _).mono ?_
          rintro e w' ⟨rfl, hw⟩
          obtain rfl := hw.symm
          clear hw
          go_wp2
          go_ret
          exact ⟨rfl, HB5.out⟩
        | ok u =>
          have hul : u.length ≤ b.data.toList.length := une_len _ _ _ _ (Nat.le_refl _) hu
          have hbl : b.data.toList.length = b.size := by simp
          have hes := esc_of_une _ _ _ _ (Nat.le_refl _) hu
          have hW : ∀ w', Calls Tryd.prog 17 #[.string ⟨u.toArray⟩] w' fun e w'' => e = .returned (.string b) ∧ Below w'.heap.size w' w'' := fun w' => by
            have := escape ⟨u.toArray⟩ w' (by show u.toArray.size ≤ _; rw [List.size_toArray]; omega)
            have e : escL (⟨u.toArray⟩ : ByteArray).data.toList = b.data.toList := hes
            rw [e, ba_eta] at this
            exact this
          have HW := Lib.hid hW
          clear hW hes hbl hul hu
          unfold unescW
          obtain ⟨U, hU⟩ : ∃ U : ByteArray, (⟨u.toArray⟩ : ByteArray) = U := ⟨_, rfl⟩
          rw [hU] at HW
          simp only [hU]
          clear hU
          go_wp2_with fail
          refine (numC 0 _).mono ?_
          rintro e w' ⟨rfl, hw⟩
          obtain rfl := hw.symm
          clear hw
          go_wp2_with fail
          refine (HW.out _).mono ?_
          rintro e w6 ⟨rfl, hb6⟩
          have HB6 : Hid (Below w.heap.size w w6) := HB5.out.trans (hb6.mono HB5.out.size)
          clear hb6
          go_wp2
          go_ret
          exact ⟨by simp, HB6.out⟩

end Go.Proofs.YtdfiblaboddbjaaDoor.Prs
