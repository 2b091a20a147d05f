/-
  The program's parts: what comes of them.
-/
import Derived.Test.YtdfiblaboddbjaaGreatDoorMagPrsQ
import Derived.RangeFuncNested
import Derived.RangeFuncBound
import Derived.RangeFuncCalls
import Derived.RangeFuncLeaves
import Derived.Shelf.Abstract
import Derived.Shelf.RegionOpen
import Derived.WalkKit
import Derived.OwnWalkIn
import Derived.TacticsInMore
import Derived.LoopNIn
import Derived.LoopIn
namespace Go.Proofs.YtdfiblaboddbjaaGreatDoor.Prs
open Go.RowKit Go.Shelf Go.Proofs.YtdfiblaboddbjaaGreatDoor.Base Go.Proofs.YtdfiblaboddbjaaGreatDoor.Rep Go.Proofs.YtdfiblaboddbjaaGreatDoor.Mag Go.Proofs.YtdfiblaboddbjaaGreatDoor.Has
set_option linter.unusedVariables false
set_option linter.unusedSimpArgs false
attribute [local go_sem] Oper.semAt_some

/-- The parts of a text, each with its place. -/
def partsF : Nat → List UInt8 → Nat → List (Nat × ByteArray)
  | 0, _, _ => []
  | f + 1, rest, o =>
    match rest.findIdx? (fun b => b == 38) with
    | none => [(o, ⟨rest.toArray⟩)]
    | some q => (o, ⟨(rest.take q).toArray⟩) :: partsF f (rest.drop (q + 1)) (o + q + 1)

/-- A link under way, and the fault if there was one. -/
structure Way where
  pk : Pk
  n : Nat
  last : ByteArray
  bad : Option (Int × Int)
noncomputable def stepO (st : Way) (x : Nat × ByteArray) : Way :=
  match st.bad with
  | some _ => st
  | none =>
    if (stepP st.pk st.n st.last x.2.data.toList).2.2.2 ≠ 0 then { st with bad := some ((x.1 : Int) + (stepP st.pk st.n st.last x.2.data.toList).2.2.1, (stepP st.pk st.n st.last x.2.data.toList).2.2.2) }
    else ⟨(stepP st.pk st.n st.last x.2.data.toList).1, st.n + 1, (stepP st.pk st.n st.last x.2.data.toList).2.1, none⟩
noncomputable def foldO (l : List (Nat × ByteArray)) (st : Way) : Way := l.foldl stepO st
theorem foldO_snoc (l : List (Nat × ByteArray)) (x : Nat × ByteArray) (st : Way) : foldO (l ++ [x]) st = stepO (foldO l st) x := by simp [foldO]
theorem foldO_bad : ∀ (l : List (Nat × ByteArray)) (st : Way) (b : Int × Int), st.bad = some b → foldO l st = st
  | [], _, _, _ => rfl
  | x :: l, st, b, h => by
    have e : stepO st x = st := by unfold stepO; rw [h]
    show foldO l (stepO st x) = st
    rw [e]; exact foldO_bad l st b h
theorem foldO_append (l m : List (Nat × ByteArray)) (st : Way) : foldO (l ++ m) st = foldO m (foldO l st) := by simp [foldO]

def Way.out (st : Way) : Pk × Int × Int := match st.bad with
  | none => (st.pk, 0, 0)
  | some (a, e) => (Pk.bare, a, e)

theorem partsF_len : ∀ (f : Nat) (rest : List UInt8) (o : Nat), (partsF f rest o).length ≤ rest.length + 1
  | 0, _, _ => Nat.zero_le _
  | f + 1, rest, o => by
    rw [partsF]
    cases hq : rest.findIdx? (fun b => b == 38) with
    | none => simp
    | some q =>
      have h := partsF_len f (rest.drop (q + 1)) (o + q + 1)
      have h1 : q < rest.length := by
        obtain ⟨h1, _⟩ := List.findIdx?_eq_some_iff_getElem.1 hq
        exact h1
      rw [List.length_drop] at h
      simp only [List.length_cons]
      omega

theorem parseF_fold : ∀ (f : Nat) (rest : List UInt8) (o : Nat) (P : Pk) (n : Nat) (last : ByteArray), rest.length < f →
    parseF f rest o P n last = (foldO (partsF f rest o) ⟨P, n, last, none⟩).out
  | 0, _, _, _, _, _, h => by omega
  | f + 1, rest, o, P, n, last, h => by
    cases hq : rest.findIdx? (fun b => b == 38) with
    | none =>
      rw [parseF_last hq, partsF, hq]
      show _ = (stepO ⟨P, n, last, none⟩ (o, ⟨rest.toArray⟩)).out
      unfold stepO
      simp only
      split
      · rfl
      · rfl
    | some q =>
      rw [parseF_more hq, partsF, hq]
      show _ = (foldO (partsF f (rest.drop (q + 1)) (o + q + 1)) (stepO ⟨P, n, last, none⟩ (o, ⟨(rest.take q).toArray⟩))).out
      by_cases hb : (stepP P n last (rest.take q)).2.2.2 ≠ 0
      · rw [if_pos hb]
        have e : stepO ⟨P, n, last, none⟩ (o, ⟨(rest.take q).toArray⟩) = ⟨P, n, last, some ((o : Int) + (stepP P n last (rest.take q)).2.2.1, (stepP P n last (rest.take q)).2.2.2)⟩ := by
          unfold stepO
          simp only
          rw [if_pos hb]
        rw [e, foldO_bad _ _ _ rfl]; rfl
      · rw [if_neg hb]
        have e : stepO ⟨P, n, last, none⟩ (o, ⟨(rest.take q).toArray⟩) = ⟨(stepP P n last (rest.take q)).1, n + 1, (stepP P n last (rest.take q)).2.1, none⟩ := by
          unfold stepO
          simp only
          rw [if_neg hb]
        rw [e]
        refine parseF_fold f _ _ _ _ _ ?_
        rw [List.length_drop]
        have : q < rest.length := by
          obtain ⟨h1, _⟩ := List.findIdx?_eq_some_iff_getElem.1 hq
          exact h1
        omega

theorem index_none {l : List UInt8} (h : l.findIdx? (fun b => b == 38) = none) : Lib.indexByte l 38 = -1 := by
  induction l with
  | nil => rfl
  | cons b l ih =>
    rw [List.findIdx?_cons] at h
    cases hb : (b == 38) with
    | true => rw [hb] at h; simp at h
    | false =>
      rw [hb] at h
      simp only [Bool.false_eq_true, if_false, Option.map_eq_none_iff] at h
      rw [Lib.indexByte, hb, ih h]; rfl
theorem index_some {l : List UInt8} {q : Nat} (h : l.findIdx? (fun b => b == 38) = some q) : Lib.indexByte l 38 = (q : Int) := by
  induction l generalizing q with
  | nil => simp at h
  | cons b l ih =>
    rw [List.findIdx?_cons] at h
    cases hb : (b == 38) with
    | true =>
      rw [hb] at h; simp at h
      subst h
      rw [Lib.indexByte, hb]; rfl
    | false =>
      rw [hb] at h
      simp only [Bool.false_eq_true, if_false, Option.map_eq_some_iff] at h
      obtain ⟨p, hp, rfl⟩ := h
      have := ih hp
      rw [Lib.indexByte, hb, this]
      have e : ((p : Int) == -1) = false := by simp
      rw [e]; rfl

/-- A part, with its place: within a short text. -/
def Part : Type := { x : Nat × ByteArray // x.1 ≤ 4096 ∧ x.2.size ≤ 4096 }
def Part.of (x : Part) : Nat × ByteArray := x.1
def ofs (l : List Part) : List (Nat × ByteArray) := l.map Part.of
theorem ofs_snoc (l : List Part) (x : Part) : ofs (l ++ [x]) = ofs l ++ [x.of] := by simp [ofs]
theorem ofs_len (l : List Part) : (ofs l).length = l.length := by simp [ofs]
def encP (x : Part) : Array Value := #[.int .i64 (x.of.1 : Int), .string x.of.2]
def KpS (Bs : Nat) (W W' : World) : Prop := W'.heap[Bs]? = W.heap[Bs]?

theorem ext_drop (s : ByteArray) (o : Nat) : s.extract o s.size = ⟨(s.data.toList.drop o).toArray⟩ := by
  apply ByteArray.ext
  apply Array.ext'
  simp [ByteArray.data_extract]
  exact List.take_of_length_le (by simp)
theorem ext_take (s : ByteArray) (o q : Nat) : s.extract o (o + q) = ⟨((s.data.toList.drop o).take q).toArray⟩ := by
  apply ByteArray.ext
  apply Array.ext'
  simp [ByteArray.data_extract]

set_option maxRecDepth 100000 in
set_option maxHeartbeats 4000000 in
/-- The closure of parts: for every loop body that keeps the text's box. -/
theorem parts1_in (n : Nat) (hn : 1 ≤ n) (l Bf Bs o0 : Nat) (s : ByteArray) (ho0 : o0 ≤ s.size) (hs : s.size ≤ 4096) (ALL : List (Nat × ByteArray)) (hA : ALL = partsF (s.size + 1) (s.data.toList.drop o0) o0) (J Jx : List Part → World → Prop)
    (hY : ∀ pre x W, J pre W → pre.length < ALL.length → YieldAt Fence.wide (n - 1) Tryz.prog l (encP x) W fun e W' =>
      (e = .returned (.bool true) ∧ J (pre ++ [x]) W' ∧ KpS Bs W W') ∨ (e = .returned (.bool false) ∧ Jx (pre ++ [x]) W'))
    (W : World) (hBf : W.cell? ⟨Bf, 0, none⟩ = some (.int .i64 (o0 : Int))) (hBs : W.cell? ⟨Bs, 0, none⟩ = some (.string s)) (h0 : J [] W) :
    CallsIn Fence.wide n Tryz.prog 41 #[.func (.yield l) #[] #[], .pointer (some ⟨Bf, 0, none⟩), .pointer (some ⟨Bs, 0, none⟩)] W fun e W' => (∃ v, e = .returned v) ∧
      ((∃ ys, ofs ys = ALL ∧ J ys W') ∨ (∃ pre, ofs pre <+: ALL ∧ Jx pre W')) := by
  have HBS := Lib.hid hBs
  have HA := Lib.hid hA
  clear hA
  refine callsIn_of_wp Tryz.func41 rfl trivial ?_ rfl
  simp only [Tryz.ntmps41, List.size_toArray, List.length_cons, List.length_nil, Nat.reduceAdd, Nat.reduceSub, Array.replicate_succ, Array.replicate_zero, List.push_toArray, List.append_toArray, List.nil_append, List.cons_append]
  gi_wp2
  gi_loopw [4] (fun v4 wr => ∃ (pre : List Part) (o f : Nat), o ≤ s.size ∧ s.size - o < f ∧ v4 = .int .i64 (o : Int) ∧ Hid (ALL = ofs pre ++ partsF f (s.data.toList.drop o) o) ∧ J pre wr ∧ Hid (KpS Bs W wr)) (fun v4 _ => s.size + 1 - (intOf v4).toNat)
  case atStart => exact ⟨[], o0, s.size + 1, ho0, by omega, rfl, HA.out, h0, rfl⟩
  case round =>
    obtain ⟨pre, o, f0, ho, hf0, rfl, HP, hJ, HK⟩ := hrel
    have hcs : wr.cell? ⟨Bs, 0, none⟩ = some (.string s) := by
      have := HK.out
      unfold KpS at this
      have h2 := HBS.out
      unfold World.cell? at h2 ⊢
      simp only at h2 ⊢
      rw [this]; exact h2
    have ho1 : (0 : Int) ≤ (o : Int) := by omega
    have ho2 : (o : Int) ≤ (s.size : Int) := by omega
    obtain ⟨f, rfl⟩ : ∃ f, f0 = f + 1 := ⟨f0 - 1, by omega⟩
    obtain ⟨X, hX⟩ : ∃ X, s.extract o s.size = X := ⟨_, rfl⟩
    have hXl : X.data.toList = s.data.toList.drop o := by rw [← hX, ext_drop]
    cases hq : (s.data.toList.drop o).findIdx? (fun b => b == 38) with
    | none =>
      have hib : ∀ m w', CallsIn Fence.wide m Tryz.prog 42 #[.string (s.extract o s.size), .int .u8 38] w' fun e w'' => e = .returned (.int .i64 (-1)) ∧ w'' = w' := fun m w' => callsIn_wide.2 (by
        have := Tryz.strings_IndexByte (s.extract o s.size) 38 w'
        rw [hX, hXl, show ((38 : Int).toNat.toUInt8) = (38 : UInt8) from rfl, index_none hq] at this
        rw [hX]; exact this)
      have HAL : Hid (ALL = ofs pre ++ [(o, s.extract o s.size)]) := by rw [HP.out, partsF, hq, ext_drop]; exact Lib.hid rfl
      have hlen : pre.length < ALL.length := by rw [HAL.out, List.length_append, ofs_len]; simp
      obtain ⟨x, hx⟩ : ∃ x : Part, x.of = (o, s.extract o s.size) := ⟨⟨(o, s.extract o s.size), by show o ≤ 4096; omega, by show (s.extract o s.size).size ≤ 4096; rw [ByteArray.size_extract]; omega⟩, rfl⟩
      obtain ⟨fn, tmps, assign, body, hy, hR⟩ := hY pre x wr hJ hlen
      unfold encP at hy
      rw [hx] at hy
      dsimp only at hy
      have HX := Lib.hid hx
      have HIB := Lib.hid hib
      clear hib hq hX hXl hx
      gi_wp2_with (refine ⟨trivial, ?_⟩; gi_at_call 42; refine (HIB.out _ _).mono ?_; rintro e w' ⟨rfl, rfl⟩)
      refine hR.mono ?_
      rintro e W3 (⟨rfl, hJ3, hk3⟩ | ⟨rfl, hJx3⟩)
      · gi_wp2
        refine bodyPost_ret (results_none rfl _ _ _) rfl ?_
        exact ⟨⟨_, rfl⟩, .inl ⟨_, by rw [ofs_snoc, HX.out]; exact HAL.out.symm, hJ3⟩⟩
      · gi_wp2
        refine bodyPost_ret (results_none rfl _ _ _) rfl ?_
        exact ⟨⟨_, rfl⟩, .inr ⟨_, by rw [HAL.out, ofs_snoc, HX.out]; exact List.prefix_refl _, hJx3⟩⟩
    | some q =>
      have hql : o + q < s.size := by
        obtain ⟨h1, _⟩ := List.findIdx?_eq_some_iff_getElem.1 hq
        simp at h1; omega
      have hib : ∀ m w', CallsIn Fence.wide m Tryz.prog 42 #[.string (s.extract o s.size), .int .u8 38] w' fun e w'' => e = .returned (.int .i64 (q : Int)) ∧ w'' = w' := fun m w' => callsIn_wide.2 (by
        have := Tryz.strings_IndexByte (s.extract o s.size) 38 w'
        rw [hX, hXl, show ((38 : Int).toNat.toUInt8) = (38 : UInt8) from rfl, index_some hq] at this
        rw [hX]; exact this)
      have HAL : Hid (ALL = ofs pre ++ (o, s.extract o (o + q)) :: partsF f (s.data.toList.drop (o + q + 1)) (o + q + 1)) := by
        rw [HP.out, partsF, hq, ext_take]
        simp only [List.drop_drop]
        exact Lib.hid rfl
      have hlen : pre.length < ALL.length := by rw [HAL.out, List.length_append, ofs_len]; simp
      obtain ⟨m, hm⟩ : ∃ m, o + q = m := ⟨_, rfl⟩
      rw [hm] at HAL
      obtain ⟨x, hx⟩ : ∃ x : Part, x.of = (o, s.extract o m) := ⟨⟨(o, s.extract o m), by show o ≤ 4096; omega, by show (s.extract o m).size ≤ 4096; rw [ByteArray.size_extract]; omega⟩, rfl⟩
      obtain ⟨fn, tmps, assign, body, hy, hR⟩ := hY pre x wr hJ hlen
      unfold encP at hy
      rw [hx] at hy
      dsimp only at hy
      have HX := Lib.hid hx
      have HIB := Lib.hid hib
      have hq1 : (0 : Int) ≤ (q : Int) := by omega
      have hm1 : (o : Int) + (q : Int) = (m : Int) := by omega
      have hm2 : (o : Int) ≤ (m : Int) := by omega
      have hm3 : (m : Int) ≤ (s.size : Int) := by omega
      have hm4 : (o : Int) + ((q : Int) + 1) = (m : Int) + 1 := by omega
      have HM := Lib.hid hm
      clear hib hq hX hXl hm hx
      gi_wp2_with (refine ⟨trivial, ?_⟩; gi_at_call 42; refine (HIB.out _ _).mono ?_; rintro e w' ⟨rfl, rfl⟩)
      refine hR.mono ?_
      rintro e W3 (⟨rfl, hJ3, hk3⟩ | ⟨rfl, hJx3⟩)
      · have HK3 : Hid (KpS Bs W W3) := by
          have h1 := HK.out
          unfold KpS at h1 hk3 ⊢
          exact Lib.hid (hk3.trans h1)
        gi_wp2
        go_roundw
        case rel => exact ⟨pre ++ [x], m + 1, f, by omega, by omega, by go_num, by rw [ofs_snoc, HX.out, List.append_assoc]; exact HAL.out, hJ3, HK3⟩
        case measure => simp [intOf]; omega
      · gi_wp2
        refine bodyPost_ret (results_none rfl _ _ _) rfl ?_
        exact ⟨⟨_, rfl⟩, .inr ⟨_, ⟨partsF f (s.data.toList.drop (m + 1)) (m + 1), by rw [HAL.out, ofs_snoc, HX.out, List.append_assoc]; rfl⟩, hJx3⟩⟩

/-- What parts hands back goes through the parts. -/
theorem parts_stops (n : Nat) (hn : 1 ≤ n) (Bf Bs o0 : Nat) (s : ByteArray) (ho0 : o0 ≤ s.size) (hs : s.size ≤ 4096) (ALL : List (Nat × ByteArray)) (hA : ALL = partsF (s.size + 1) (s.data.toList.drop o0) o0) (w : World)
    (hf : Bf < w.heap.size) (hb : Bs < w.heap.size) (hBf : w.cell? ⟨Bf, 0, none⟩ = some (.int .i64 (o0 : Int))) (hBs : w.cell? ⟨Bs, 0, none⟩ = some (.string s)) :
    SeqStopsK Fence.wide n Tryz.prog 41 #[.pointer (some ⟨Bf, 0, none⟩), .pointer (some ⟨Bs, 0, none⟩)] encP (KpS Bs) (fun ys => ofs ys = ALL) (fun pre => ofs pre <+: ALL) ALL.length w := fun l J Jx W hW _ _ hY h0 => by
  exact parts1_in n hn l Bf Bs o0 s ho0 hs ALL hA J Jx hY W ((hW.cell (p := ⟨Bf, 0, none⟩) hf).trans hBf) ((hW.cell (p := ⟨Bs, 0, none⟩) hb).trans hBs) h0

end Go.Proofs.YtdfiblaboddbjaaGreatDoor.Prs
