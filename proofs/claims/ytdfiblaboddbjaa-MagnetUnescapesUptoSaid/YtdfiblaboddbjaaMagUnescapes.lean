/-
  MagnetUnescapes answers true: for every string that, read as data, is of bulk at most 1048576, the program's Unescape and the document's answer the same text and the same error.
  Condition: the bound of the statement's second form (its '..UptoSaid').
-/
import Derived.Test.YtdfiblaboddbjaaRows
import Derived.Test.YtdfiblaboddbjaaMagUne
import Derived.Test.YtdfiblaboddbjaaMagUnr
import Derived.Test.YtdfiblaboddbjaaRowBase
import Derived.JoinedCond
namespace Go.Proofs.Ytdfiblaboddbjaa.unescapes
open Go.ChangeShapes Go.WideShapes Go.ChangeAt Go.RowKit Go.Proofs.Ytdfiblaboddbjaa.Mag
open Go.ChangeMaps (setBlock shut_map_nil open_string shut_string keptBut_setBlock frozen?_setBlock heap_setBlock_same)
set_option linter.unusedVariables false
set_option linter.unusedSimpArgs false

theorem own : ownKnob Try.prog.godebug = none := by kernel_rfl

def unescV : Except Nat (List UInt8) → Value
  | .ok l => .tuple #[.string ⟨l.toArray⟩, .int .i64 0]
  | .error i => .tuple #[.string ⟨#[]⟩, .int .i64 222]

set_option maxHeartbeats 1000000 in
theorem unescape (s : ByteArray) (w : World) (hs : s.size ≤ 1099511627776) :
    Calls Try.prog 7 #[.string s] w fun e w' => e = .returned (unescV (une 0 s.data.toList)) ∧ Below w.heap.size w w' := by
  go_enter Try.func7, Try.ntmps7
  go_wp2_with fail
  refine (plain s _ hs).mono ?_
  rintro e w1 ⟨rfl, hb1⟩
  cases h : une 0 s.data.toList with
  | ok l =>
    simp only [uneV]
    go_wp2
    go_ret2
    exact ⟨by rw [h]; rfl, hb1⟩
  | error i =>
    simp only [uneV]
    have hi : decide ((i : Int) ≥ 0) = true := by simp
    go_wp2
    go_ret2
    exact ⟨by rw [h]; rfl, hb1⟩

set_option maxHeartbeats 1000000 in
theorem rUnescape (s : ByteArray) (w : World) (hs : s.size ≤ 1099511627776) :
    Calls Try.prog 8 #[.string s] w fun e w' => e = .returned (unescV (une 0 s.data.toList)) ∧ Below w.heap.size w w' := by
  go_enter Try.func8, Try.ntmps8
  go_wp2_with fail
  refine (runescape s _ hs).mono ?_
  rintro e w1 ⟨rfl, hb1⟩
  cases h : une 0 s.data.toList with
  | ok l =>
    simp only [uneV]
    go_wp2
    go_ret2
    exact ⟨by rw [h]; rfl, hb1⟩
  | error i =>
    simp only [uneV]
    have hi : decide ((i : Int) ≥ 0) = true := by simp
    go_wp2
    go_ret2
    exact ⟨by rw [h]; rfl, hb1⟩

set_option maxHeartbeats 1000000 in
theorem walk (s : ByteArray) (w : World) (hs : s.size ≤ 1048576) :
    Calls Try.prog 4 #[.string s] w fun e w' => e = .returned (.bool true) ∧ Below w.heap.size w w' := by
  go_enter Try.func4, Try.ntmps4
  go_wp2_with fail
  refine (unescape s _ (by omega)).mono ?_
  rintro e w1 ⟨rfl, hb1⟩
  cases h : une 0 s.data.toList with
  | ok l =>
    have H := Lib.hid h
    clear h
    simp only [unescV]
    go_wp2_with fail
    refine (rUnescape s _ (by omega)).mono ?_
    rintro e w2 ⟨rfl, hb2⟩
    rw [H.out]
    simp only [unescV]
    go_wp2
    go_ret
    exact ⟨by simp, hb1.trans (hb2.mono hb1.size)⟩
  | error i =>
    have H := Lib.hid h
    clear h
    simp only [unescV]
    go_wp2_with fail
    refine (rUnescape s _ (by omega)).mono ?_
    rintro e w2 ⟨rfl, hb2⟩
    rw [H.out]
    simp only [unescV]
    go_wp2
    go_ret
    exact ⟨by simp, hb1.trans (hb2.mono hb1.size)⟩

theorem contract (H : Type) (enc : TypeId × Value → H) (W : World) (base : Nat) (args : Array Value) (ds gs : List (DataW H)) (before : List MemPlace)
    (hk : Rows.uptoSmall H (ds ++ gs) = true)
    (hval : ∀ (j : Nat) t v, Try.f4.params[j]? = some t → args[j]? = some v → Value.okWide Try.prog W .any base t v)
    (hW : DataW.Whole enc Try.prog Try.f4.params.toList Rows.magnetUnescapesSpec.vars false W args.toList ds gs before) :
    Calls Try.prog 4 args W fun e W' => ∃ v, e = .returned v ∧ Rows.magnetUnescapesSpec.post enc Try.prog Try.f4 false true false false W args v W' := by
  have hW' := hW
  obtain ⟨p, q, hA0, hV, rfl, hfz, hnd⟩ := hW
  have hA : DataW.TrodAll enc Try.prog W 0 (fun _ => true) true Try.f4.params.toList args.toList ds p := hA0
  rw [Try.params4] at hA hval
  obtain ⟨v0, vs0, d0, ds0, p0, q0, hargs, rfl, rfl, h0, r0⟩ := trodAll_cons hA
  obtain ⟨rfl, rfl, rfl⟩ := trodAll_nil r0
  obtain rfl : args = #[v0] := by cases args; simp_all
  obtain ⟨rfl, rfl⟩ := trodVars_none hV
  obtain ⟨s, rfl, rfl, rfl, hs⟩ := open_string Try.underlying9 (hval 0 9 v0 rfl rfl) h0
  have hb := of_decide_eq_true hk
  simp only [Rows.uptoBulkAll, Rows.uptoBulk, List.cons_append, List.nil_append, List.append_nil, List.length_map, Array.length_toList] at hb
  have hsz : s.size ≤ 1048576 := by have : s.data.size = s.size := rfl; omega
  refine (walk s W hsz).mono fun e W' ⟨he, hg⟩ => ?_
  subst he
  exact ⟨_, rfl, RowBase.law_post (by kernel_rfl) rfl rfl Try.underlying4 (by decide +kernel) rfl hW' hg⟩

set_option maxRecDepth 100000 in
theorem lifted (os : Os) (started : os.Started) (H : Type) (enc : TypeId × Value → H) (F : Stop.Interp) :
    ReturnsInHanded {} Try.checked os 4 .any ((Rows.OpenSpec.upto Rows.magnetUnescapesSpec).pre6 enc Try.prog Try.f4 Rows.magnetUnescapesUptoRow.domain false) (((Rows.OpenSpec.upto Rows.magnetUnescapesSpec).at F).post enc Try.prog Try.f4 false true false false) := by
  refine returnsInHanded_of_cond (C := Try.checked) (s := Rows.OpenSpec.upto Rows.magnetUnescapesSpec) (k := Rows.uptoSmall) rfl own started (by kernel_rfl) Try.func4
    (OpenSpec.witness (enc := enc) (C := Try.checked) (s := Rows.OpenSpec.upto Rows.magnetUnescapesSpec) (k := Rows.uptoSmall) rfl false ⟨#[], #[.string .empty], []⟩ 8 (by kernel_rfl) (by kernel_rfl) (by kernel_rfl)
      (x := ([.lit (.string [])], [], [])) (by kernel_rfl) rfl (by kernel_rfl)) ?_
  intro W base args ds gs before hval hW _ hk _
  exact contract H enc W base args ds gs before hk hval hW

theorem over : Rows.magnetUnescapesUptoRow.holds Try.pinned (Rows.OpenSpec.upto Rows.magnetUnescapesSpec) :=
  OpenClaim.holds_of_cond 4 Try.f4 rfl rfl rfl rfl rfl rfl rfl ⟨rfl, rfl, rfl, rfl, rfl⟩ rfl rfl rfl rfl rfl (by kernel_rfl) Try.func4 (by kernel_rfl)
    (of_decide_eq_true (by kernel_rfl)) (by unfold Func.isWrapper; first | (rw [if_pos (by decide +kernel)]; kernel_rfl) | (rw [if_neg (by decide +kernel)]; exact ⟨rfl, rfl⟩))
    (fun os started H enc _ F => lifted os started H enc F)

theorem proved : Rows.MagnetUnescapesUptoSaid :=
  over

end Go.Proofs.Ytdfiblaboddbjaa.unescapes
