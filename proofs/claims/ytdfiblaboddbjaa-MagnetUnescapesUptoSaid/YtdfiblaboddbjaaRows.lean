/-
  No cell of these rows narrows 'for every input' (looked for: loops, veiled, ifaces, maps, wideKeys, modest, calm, conditions, laid).
  DERIVED. THE GIVEN ROWS OF THIS SEAT. 2 by the template 'for every input the law returns true; each argument reads behind the call as it read before'; 0 by the template 'total and deterministic' (their statements: YtdfiblaboddbjaaTotals.lean).
  GIVEN WITH THE SEED: the statements are not yours to turn. If you find one false, say at which input.
  Laid BY PROGRAM, IN A SANDBOX (cutbox-rows.mjs): the forced cells as the released guide's own fill.sh prints them over the translation 4478fc242e77872b… (all of the seat's roots in one cut). By AI agents, Wed Nov 11 2026. No macro, syntax, notation, axiom, sorry.
-/
import Derived.Test.YtdfiblaboddbjaaChecked
import GoSem.Claim
import GoSem.ClaimJoined
import GoSem.ClaimMapViews
import Derived.JoinedTies
import Derived.KernelRfl
namespace Go.Proofs.Ytdfiblaboddbjaa
/- THE CELL 'sum', in the pinned program and in every row, IS THE sha256 OF THE DUMP (.gsa) THAT YtdfiblaboddbjaaProg.lean LOADS. Nothing in Lean hashes anything: it is a label: what it is worth is what the hold of that sum in a sandbox is worth. -/
noncomputable def Try.pinned : Pinned := { name := "ytdfiblaboddbjaa", sum := "4478fc242e77872b7187ae90202ca2f830788454e6007437e5d290e245a7aa8f", checked := Try.checked }
namespace Rows
def none {H : Type} : Left H := { results := [], args := [] }

/-- 'torrentlaw22.MagnetEscapes': WHATEVER THE INPUT: true; the input reads as it did. -/
def magnetEscapesSpec : ChangeSpec := { name := "magnetEscapes", fn := fun _ => fun
  | [d] => { results := [.lit (.bool true)], args := [d] }
  | _ => none }
def magnetEscapesRow : OpenClaim := { program := "ytdfiblaboddbjaa", sum := "4478fc242e77872b7187ae90202ca2f830788454e6007437e5d290e245a7aa8f", func := "torrent/torrentlaw22.MagnetEscapes", spec := "magnetEscapes", inPlace := ["internal/abi.NoEscape"], apart := false }
def MagnetEscapesSaid : Prop := magnetEscapesRow.holds Try.pinned (OpenSpec.ofChange magnetEscapesSpec)

/-- ITS FALSE NEIGHBOUR: 'it returns false'. Refute it at one input. -/
def magnetEscapesWrong : ChangeSpec := { name := "magnetEscapes", fn := fun _ => fun
  | [d] => { results := [.lit (.bool false)], args := [d] }
  | _ => none }
def MagnetEscapesWrongFalsely : Prop := magnetEscapesRow.holds Try.pinned (OpenSpec.ofChange magnetEscapesWrong)

/-- 'torrentlaw22.MagnetUnescapes': WHATEVER THE INPUT: true; the input reads as it did. -/
def magnetUnescapesSpec : ChangeSpec := { name := "magnetUnescapes", fn := fun _ => fun
  | [d] => { results := [.lit (.bool true)], args := [d] }
  | _ => none }
def magnetUnescapesRow : OpenClaim := { program := "ytdfiblaboddbjaa", sum := "4478fc242e77872b7187ae90202ca2f830788454e6007437e5d290e245a7aa8f", func := "torrent/torrentlaw22.MagnetUnescapes", spec := "magnetUnescapes", inPlace := ["internal/abi.NoEscape", "internal/bytealg.IndexByteString"], apart := false }
def MagnetUnescapesSaid : Prop := magnetUnescapesRow.holds Try.pinned (OpenSpec.ofChange magnetUnescapesSpec)

/-- ITS FALSE NEIGHBOUR: 'it returns false'. Refute it at one input. -/
def magnetUnescapesWrong : ChangeSpec := { name := "magnetUnescapes", fn := fun _ => fun
  | [d] => { results := [.lit (.bool false)], args := [d] }
  | _ => none }
def MagnetUnescapesWrongFalsely : Prop := magnetUnescapesRow.holds Try.pinned (OpenSpec.ofChange magnetUnescapesWrong)

/- THE SECOND FORM. 'bulk': how many values and letters a reading holds, each counted each time it is reached (what is shared counts as often as it is met; a slice's spare places count too). A statement '..UptoSaid' is the law's where the arguments, and the package variables that the reading takes, are together of bulk at most 1048576: NARROWER than '..Said'. Prove '..Said' where nothing that the law and all that it calls make is longer than what came in: it says more and counts as full. Else prove '..UptoSaid'. A law counts once. -/
mutual
def uptoBulk {H : Type} : DataW H → Nat
  | .lit (.string bytes) => bytes.length + 1
  | .lit _ => 1
  | .nil => 1
  | .ptr d => uptoBulk d + 1
  | .slice elems spare => uptoBulkAll elems + uptoBulkAll spare + 1
  | .agg parts => uptoBulkAll parts + 1
  | .iface _ d => uptoBulk d + 1
  | .map entries => uptoBulkEntries entries + 1
  | .held _ => 1
def uptoBulkAll {H : Type} : List (DataW H) → Nat
  | [] => 0
  | d :: r => uptoBulk d + uptoBulkAll r
def uptoBulkEntries {H : Type} : List (Lit × DataW H) → Nat
  | [] => 0
  | x :: r => uptoBulkEntry x + uptoBulkEntries r
def uptoBulkEntry {H : Type} : Lit × DataW H → Nat
  | (.string bytes, d) => bytes.length + uptoBulk d + 1
  | (_, d) => uptoBulk d + 1
 end
def uptoSmall : (H : Type) → List (DataW H) → Bool := fun _ ds => decide (uptoBulkAll ds ≤ 1048576)
def OpenSpec.upto (s : _root_.Go.ChangeSpec) : _root_.Go.OpenSpec := { _root_.Go.OpenSpec.ofChange s with cond := some uptoSmall }

/-- 'torrentlaw22.MagnetEscapes', WHERE WHAT IT READS IS OF BULK AT MOST 1048576: true; the input reads as it did. -/
def magnetEscapesUptoRow : OpenClaim := { program := "ytdfiblaboddbjaa", sum := "4478fc242e77872b7187ae90202ca2f830788454e6007437e5d290e245a7aa8f", func := "torrent/torrentlaw22.MagnetEscapes", spec := "magnetEscapes", inPlace := ["internal/abi.NoEscape"], apart := false, narrowed := true }
def MagnetEscapesUptoSaid : Prop := magnetEscapesUptoRow.holds Try.pinned (OpenSpec.upto magnetEscapesSpec)

/-- 'torrentlaw22.MagnetUnescapes', WHERE WHAT IT READS IS OF BULK AT MOST 1048576: true; the input reads as it did. -/
def magnetUnescapesUptoRow : OpenClaim := { program := "ytdfiblaboddbjaa", sum := "4478fc242e77872b7187ae90202ca2f830788454e6007437e5d290e245a7aa8f", func := "torrent/torrentlaw22.MagnetUnescapes", spec := "magnetUnescapes", inPlace := ["internal/abi.NoEscape", "internal/bytealg.IndexByteString"], apart := false, narrowed := true }
def MagnetUnescapesUptoSaid : Prop := magnetUnescapesUptoRow.holds Try.pinned (OpenSpec.upto magnetUnescapesSpec)

end Rows
end Go.Proofs.Ytdfiblaboddbjaa
