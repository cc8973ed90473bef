/-
  No cell of these rows narrows 'for every input' (looked for: loops, veiled, ifaces, maps, wideKeys, modest, calm, conditions, laid).
  DERIVED. THE GIVEN ROWS OF THIS SEAT. 9 by the template 'for every input the law returns true; each argument reads behind the call as it read before'; 0 by the template 'total and deterministic' (their statements: YtfabclhcceooaaaTotals.lean).
  GIVEN WITH THE SEED: the statements are not yours to turn. If you find one false, say at which input.
  Laid BY PROGRAM, IN A SANDBOX (cutbox-rows.mjs): the forced cells as the released guide's own fill.sh prints them over the translation 244158d0427ff3cc… (all of the seat's roots in one cut). By AI agents, Wed Nov 11 2026. No macro, syntax, notation, axiom, sorry.
-/
import Derived.Test.YtfabclhcceooaaaChecked
import GoSem.Claim
import GoSem.ClaimJoined
import GoSem.ClaimMapViews
import Derived.JoinedTies
import Derived.KernelRfl
namespace Go.Proofs.Ytfabclhcceooaaa
/- THE CELL 'sum', in the pinned program and in every row, IS THE sha256 OF THE DUMP (.gsa) THAT YtfabclhcceooaaaProg.lean LOADS. Nothing in Lean hashes anything: it is a label: what it is worth is what the hold of that sum in a sandbox is worth. -/
noncomputable def Try.pinned : Pinned := { name := "ytfabclhcceooaaa", sum := "244158d0427ff3cc958e1f895106834c9da9b6aed594f42df21fe85bc3c3bcfa", checked := Try.checked }
namespace Rows
def none {H : Type} : Left H := { results := [], args := [] }

/-- 'laws.FnExactActionOK': WHATEVER THE INPUT: true; the input reads as it did. -/
def fnExactActionOKSpec : ChangeSpec := { name := "fnExactActionOK", fn := fun _ => fun
  | [d] => { results := [.lit (.bool true)], args := [d] }
  | _ => none }
def fnExactActionOKRow : OpenClaim := { program := "ytfabclhcceooaaa", sum := "244158d0427ff3cc958e1f895106834c9da9b6aed594f42df21fe85bc3c3bcfa", func := "loop.example/g00308/laws.FnExactActionOK", spec := "fnExactActionOK", inPlace := ["internal/bytealg.IndexByteString"], unfollowed := true, recurses := true, apart := false }
def FnExactActionOKSaid : Prop := fnExactActionOKRow.holds Try.pinned (OpenSpec.ofChange fnExactActionOKSpec)

/-- ITS FALSE NEIGHBOUR: 'it returns false'. Refute it at one input. -/
def fnExactActionOKWrong : ChangeSpec := { name := "fnExactActionOK", fn := fun _ => fun
  | [d] => { results := [.lit (.bool false)], args := [d] }
  | _ => none }
def FnExactActionOKWrongFalsely : Prop := fnExactActionOKRow.holds Try.pinned (OpenSpec.ofChange fnExactActionOKWrong)

/-- 'laws.FnExactArgOf': WHATEVER THE INPUT: true; the input reads as it did. -/
def fnExactArgOfSpec : ChangeSpec := { name := "fnExactArgOf", fn := fun _ => fun
  | [d1, d2, d3] => { results := [.lit (.bool true)], args := [d1, d2, d3] }
  | _ => none }
def fnExactArgOfRow : OpenClaim := { program := "ytfabclhcceooaaa", sum := "244158d0427ff3cc958e1f895106834c9da9b6aed594f42df21fe85bc3c3bcfa", func := "loop.example/g00308/laws.FnExactArgOf", spec := "fnExactArgOf", inPlace := ["internal/bytealg.IndexByteString"], unfollowed := true, recurses := true, apart := false }
def FnExactArgOfSaid : Prop := fnExactArgOfRow.holds Try.pinned (OpenSpec.ofChange fnExactArgOfSpec)

/-- ITS FALSE NEIGHBOUR: 'it returns false'. Refute it at one input. -/
def fnExactArgOfWrong : ChangeSpec := { name := "fnExactArgOf", fn := fun _ => fun
  | [d1, d2, d3] => { results := [.lit (.bool false)], args := [d1, d2, d3] }
  | _ => none }
def FnExactArgOfWrongFalsely : Prop := fnExactArgOfRow.holds Try.pinned (OpenSpec.ofChange fnExactArgOfWrong)

/-- 'laws.FnExactScreenOK': WHATEVER THE INPUT: true; the input reads as it did. -/
def fnExactScreenOKSpec : ChangeSpec := { name := "fnExactScreenOK", fn := fun _ => fun
  | [d] => { results := [.lit (.bool true)], args := [d] }
  | _ => none }
def fnExactScreenOKRow : OpenClaim := { program := "ytfabclhcceooaaa", sum := "244158d0427ff3cc958e1f895106834c9da9b6aed594f42df21fe85bc3c3bcfa", func := "loop.example/g00308/laws.FnExactScreenOK", spec := "fnExactScreenOK", unfollowed := true, recurses := true, apart := false }
def FnExactScreenOKSaid : Prop := fnExactScreenOKRow.holds Try.pinned (OpenSpec.ofChange fnExactScreenOKSpec)

/-- ITS FALSE NEIGHBOUR: 'it returns false'. Refute it at one input. -/
def fnExactScreenOKWrong : ChangeSpec := { name := "fnExactScreenOK", fn := fun _ => fun
  | [d] => { results := [.lit (.bool false)], args := [d] }
  | _ => none }
def FnExactScreenOKWrongFalsely : Prop := fnExactScreenOKRow.holds Try.pinned (OpenSpec.ofChange fnExactScreenOKWrong)

/-- 'laws.FnExactNewScreen': WHATEVER THE INPUT: true; the input reads as it did. -/
def fnExactNewScreenSpec : ChangeSpec := { name := "fnExactNewScreen", fn := fun _ => fun
  | [d1, d2] => { results := [.lit (.bool true)], args := [d1, d2] }
  | _ => none }
def fnExactNewScreenRow : OpenClaim := { program := "ytfabclhcceooaaa", sum := "244158d0427ff3cc958e1f895106834c9da9b6aed594f42df21fe85bc3c3bcfa", func := "loop.example/g00308/laws.FnExactNewScreen", spec := "fnExactNewScreen", apart := false }
def FnExactNewScreenSaid : Prop := fnExactNewScreenRow.holds Try.pinned (OpenSpec.ofChange fnExactNewScreenSpec)

/-- ITS FALSE NEIGHBOUR: 'it returns false'. Refute it at one input. -/
def fnExactNewScreenWrong : ChangeSpec := { name := "fnExactNewScreen", fn := fun _ => fun
  | [d1, d2] => { results := [.lit (.bool false)], args := [d1, d2] }
  | _ => none }
def FnExactNewScreenWrongFalsely : Prop := fnExactNewScreenRow.holds Try.pinned (OpenSpec.ofChange fnExactNewScreenWrong)

/-- 'laws.FnExactRowCells': WHATEVER THE INPUT: true; the input reads as it did. -/
def fnExactRowCellsSpec : ChangeSpec := { name := "fnExactRowCells", fn := fun _ => fun
  | [d1, d2] => { results := [.lit (.bool true)], args := [d1, d2] }
  | _ => none }
def fnExactRowCellsRow : OpenClaim := { program := "ytfabclhcceooaaa", sum := "244158d0427ff3cc958e1f895106834c9da9b6aed594f42df21fe85bc3c3bcfa", func := "loop.example/g00308/laws.FnExactRowCells", spec := "fnExactRowCells", inPlace := ["internal/abi.NoEscape"], unfollowed := true, recurses := true, apart := false }
def FnExactRowCellsSaid : Prop := fnExactRowCellsRow.holds Try.pinned (OpenSpec.ofChange fnExactRowCellsSpec)

/-- ITS FALSE NEIGHBOUR: 'it returns false'. Refute it at one input. -/
def fnExactRowCellsWrong : ChangeSpec := { name := "fnExactRowCells", fn := fun _ => fun
  | [d1, d2] => { results := [.lit (.bool false)], args := [d1, d2] }
  | _ => none }
def FnExactRowCellsWrongFalsely : Prop := fnExactRowCellsRow.holds Try.pinned (OpenSpec.ofChange fnExactRowCellsWrong)

/-- 'laws.FnExactSameScreen': WHATEVER THE INPUT: true; the input reads as it did. -/
def fnExactSameScreenSpec : ChangeSpec := { name := "fnExactSameScreen", fn := fun _ => fun
  | [d1, d2] => { results := [.lit (.bool true)], args := [d1, d2] }
  | _ => none }
def fnExactSameScreenRow : OpenClaim := { program := "ytfabclhcceooaaa", sum := "244158d0427ff3cc958e1f895106834c9da9b6aed594f42df21fe85bc3c3bcfa", func := "loop.example/g00308/laws.FnExactSameScreen", spec := "fnExactSameScreen", inPlace := ["internal/abi.NoEscape"], unfollowed := true, recurses := true, apart := false }
def FnExactSameScreenSaid : Prop := fnExactSameScreenRow.holds Try.pinned (OpenSpec.ofChange fnExactSameScreenSpec)

/-- ITS FALSE NEIGHBOUR: 'it returns false'. Refute it at one input. -/
def fnExactSameScreenWrong : ChangeSpec := { name := "fnExactSameScreen", fn := fun _ => fun
  | [d1, d2] => { results := [.lit (.bool false)], args := [d1, d2] }
  | _ => none }
def FnExactSameScreenWrongFalsely : Prop := fnExactSameScreenRow.holds Try.pinned (OpenSpec.ofChange fnExactSameScreenWrong)

/-- 'laws.FnExactResizeScreen': WHATEVER THE INPUT: true; the input reads as it did. -/
def fnExactResizeScreenSpec : ChangeSpec := { name := "fnExactResizeScreen", fn := fun _ => fun
  | [d1, d2, d3] => { results := [.lit (.bool true)], args := [d1, d2, d3] }
  | _ => none }
def fnExactResizeScreenRow : OpenClaim := { program := "ytfabclhcceooaaa", sum := "244158d0427ff3cc958e1f895106834c9da9b6aed594f42df21fe85bc3c3bcfa", func := "loop.example/g00308/laws.FnExactResizeScreen", spec := "fnExactResizeScreen", unfollowed := true, recurses := true, apart := false }
def FnExactResizeScreenSaid : Prop := fnExactResizeScreenRow.holds Try.pinned (OpenSpec.ofChange fnExactResizeScreenSpec)

/-- ITS FALSE NEIGHBOUR: 'it returns false'. Refute it at one input. -/
def fnExactResizeScreenWrong : ChangeSpec := { name := "fnExactResizeScreen", fn := fun _ => fun
  | [d1, d2, d3] => { results := [.lit (.bool false)], args := [d1, d2, d3] }
  | _ => none }
def FnExactResizeScreenWrongFalsely : Prop := fnExactResizeScreenRow.holds Try.pinned (OpenSpec.ofChange fnExactResizeScreenWrong)

/-- 'laws.FnExactScreenBytes': WHATEVER THE INPUT: true; the input reads as it did. -/
def fnExactScreenBytesSpec : ChangeSpec := { name := "fnExactScreenBytes", fn := fun _ => fun
  | [d] => { results := [.lit (.bool true)], args := [d] }
  | _ => none }
def fnExactScreenBytesRow : OpenClaim := { program := "ytfabclhcceooaaa", sum := "244158d0427ff3cc958e1f895106834c9da9b6aed594f42df21fe85bc3c3bcfa", func := "loop.example/g00308/laws.FnExactScreenBytes", spec := "fnExactScreenBytes", inPlace := ["internal/abi.NoEscape"], unfollowed := true, recurses := true, apart := false }
def FnExactScreenBytesSaid : Prop := fnExactScreenBytesRow.holds Try.pinned (OpenSpec.ofChange fnExactScreenBytesSpec)

/-- ITS FALSE NEIGHBOUR: 'it returns false'. Refute it at one input. -/
def fnExactScreenBytesWrong : ChangeSpec := { name := "fnExactScreenBytes", fn := fun _ => fun
  | [d] => { results := [.lit (.bool false)], args := [d] }
  | _ => none }
def FnExactScreenBytesWrongFalsely : Prop := fnExactScreenBytesRow.holds Try.pinned (OpenSpec.ofChange fnExactScreenBytesWrong)

/-- 'laws.FnExactReadScreen': WHATEVER THE INPUT: true; the input reads as it did. -/
def fnExactReadScreenSpec : ChangeSpec := { name := "fnExactReadScreen", fn := fun _ => fun
  | [d] => { results := [.lit (.bool true)], args := [d] }
  | _ => none }
def fnExactReadScreenRow : OpenClaim := { program := "ytfabclhcceooaaa", sum := "244158d0427ff3cc958e1f895106834c9da9b6aed594f42df21fe85bc3c3bcfa", func := "loop.example/g00308/laws.FnExactReadScreen", spec := "fnExactReadScreen", inPlace := ["internal/abi.NoEscape"], unfollowed := true, recurses := true, apart := false }
def FnExactReadScreenSaid : Prop := fnExactReadScreenRow.holds Try.pinned (OpenSpec.ofChange fnExactReadScreenSpec)

/-- ITS FALSE NEIGHBOUR: 'it returns false'. Refute it at one input. -/
def fnExactReadScreenWrong : ChangeSpec := { name := "fnExactReadScreen", fn := fun _ => fun
  | [d] => { results := [.lit (.bool false)], args := [d] }
  | _ => none }
def FnExactReadScreenWrongFalsely : Prop := fnExactReadScreenRow.holds Try.pinned (OpenSpec.ofChange fnExactReadScreenWrong)

/- THE SECOND FORM. 'bulk': how many values and letters a reading holds, each counted each time it is reached (what is shared counts as often as it is met; a slice's spare places count too). A statement '..UptoSaid' is the law's where the arguments, and the package variables that the reading takes, are together of bulk at most 1048576: NARROWER than '..Said'. Prove '..Said' where nothing that the law and all that it calls make is longer than what came in: it says more and counts as full. Else prove '..UptoSaid'. A law counts once. -/
mutual
def uptoBulk {H : Type} : DataW H → Nat
  | .lit (.string bytes) => bytes.length + 1
  | .lit _ => 1
  | .nil => 1
  | .ptr d => uptoBulk d + 1
  | .slice elems spare => uptoBulkAll elems + uptoBulkAll spare + 1
  | .agg parts => uptoBulkAll parts + 1
  | .iface _ d => uptoBulk d + 1
  | .map entries => uptoBulkEntries entries + 1
  | .held _ => 1
def uptoBulkAll {H : Type} : List (DataW H) → Nat
  | [] => 0
  | d :: r => uptoBulk d + uptoBulkAll r
def uptoBulkEntries {H : Type} : List (Lit × DataW H) → Nat
  | [] => 0
  | x :: r => uptoBulkEntry x + uptoBulkEntries r
def uptoBulkEntry {H : Type} : Lit × DataW H → Nat
  | (.string bytes, d) => bytes.length + uptoBulk d + 1
  | (_, d) => uptoBulk d + 1
 end
def uptoSmall : (H : Type) → List (DataW H) → Bool := fun _ ds => decide (uptoBulkAll ds ≤ 1048576)
def OpenSpec.upto (s : _root_.Go.ChangeSpec) : _root_.Go.OpenSpec := { _root_.Go.OpenSpec.ofChange s with cond := some uptoSmall }

/-- 'laws.FnExactActionOK', WHERE WHAT IT READS IS OF BULK AT MOST 1048576: true; the input reads as it did. -/
def fnExactActionOKUptoRow : OpenClaim := { program := "ytfabclhcceooaaa", sum := "244158d0427ff3cc958e1f895106834c9da9b6aed594f42df21fe85bc3c3bcfa", func := "loop.example/g00308/laws.FnExactActionOK", spec := "fnExactActionOK", inPlace := ["internal/bytealg.IndexByteString"], unfollowed := true, recurses := true, apart := false, narrowed := true }
def FnExactActionOKUptoSaid : Prop := fnExactActionOKUptoRow.holds Try.pinned (OpenSpec.upto fnExactActionOKSpec)

/-- 'laws.FnExactArgOf', WHERE WHAT IT READS IS OF BULK AT MOST 1048576: true; the input reads as it did. -/
def fnExactArgOfUptoRow : OpenClaim := { program := "ytfabclhcceooaaa", sum := "244158d0427ff3cc958e1f895106834c9da9b6aed594f42df21fe85bc3c3bcfa", func := "loop.example/g00308/laws.FnExactArgOf", spec := "fnExactArgOf", inPlace := ["internal/bytealg.IndexByteString"], unfollowed := true, recurses := true, apart := false, narrowed := true }
def FnExactArgOfUptoSaid : Prop := fnExactArgOfUptoRow.holds Try.pinned (OpenSpec.upto fnExactArgOfSpec)

/-- 'laws.FnExactScreenOK', WHERE WHAT IT READS IS OF BULK AT MOST 1048576: true; the input reads as it did. -/
def fnExactScreenOKUptoRow : OpenClaim := { program := "ytfabclhcceooaaa", sum := "244158d0427ff3cc958e1f895106834c9da9b6aed594f42df21fe85bc3c3bcfa", func := "loop.example/g00308/laws.FnExactScreenOK", spec := "fnExactScreenOK", unfollowed := true, recurses := true, apart := false, narrowed := true }
def FnExactScreenOKUptoSaid : Prop := fnExactScreenOKUptoRow.holds Try.pinned (OpenSpec.upto fnExactScreenOKSpec)

/-- 'laws.FnExactNewScreen', WHERE WHAT IT READS IS OF BULK AT MOST 1048576: true; the input reads as it did. -/
def fnExactNewScreenUptoRow : OpenClaim := { program := "ytfabclhcceooaaa", sum := "244158d0427ff3cc958e1f895106834c9da9b6aed594f42df21fe85bc3c3bcfa", func := "loop.example/g00308/laws.FnExactNewScreen", spec := "fnExactNewScreen", apart := false, narrowed := true }
def FnExactNewScreenUptoSaid : Prop := fnExactNewScreenUptoRow.holds Try.pinned (OpenSpec.upto fnExactNewScreenSpec)

/-- 'laws.FnExactRowCells', WHERE WHAT IT READS IS OF BULK AT MOST 1048576: true; the input reads as it did. -/
def fnExactRowCellsUptoRow : OpenClaim := { program := "ytfabclhcceooaaa", sum := "244158d0427ff3cc958e1f895106834c9da9b6aed594f42df21fe85bc3c3bcfa", func := "loop.example/g00308/laws.FnExactRowCells", spec := "fnExactRowCells", inPlace := ["internal/abi.NoEscape"], unfollowed := true, recurses := true, apart := false, narrowed := true }
def FnExactRowCellsUptoSaid : Prop := fnExactRowCellsUptoRow.holds Try.pinned (OpenSpec.upto fnExactRowCellsSpec)

/-- 'laws.FnExactSameScreen', WHERE WHAT IT READS IS OF BULK AT MOST 1048576: true; the input reads as it did. -/
def fnExactSameScreenUptoRow : OpenClaim := { program := "ytfabclhcceooaaa", sum := "244158d0427ff3cc958e1f895106834c9da9b6aed594f42df21fe85bc3c3bcfa", func := "loop.example/g00308/laws.FnExactSameScreen", spec := "fnExactSameScreen", inPlace := ["internal/abi.NoEscape"], unfollowed := true, recurses := true, apart := false, narrowed := true }
def FnExactSameScreenUptoSaid : Prop := fnExactSameScreenUptoRow.holds Try.pinned (OpenSpec.upto fnExactSameScreenSpec)

/-- 'laws.FnExactResizeScreen', WHERE WHAT IT READS IS OF BULK AT MOST 1048576: true; the input reads as it did. -/
def fnExactResizeScreenUptoRow : OpenClaim := { program := "ytfabclhcceooaaa", sum := "244158d0427ff3cc958e1f895106834c9da9b6aed594f42df21fe85bc3c3bcfa", func := "loop.example/g00308/laws.FnExactResizeScreen", spec := "fnExactResizeScreen", unfollowed := true, recurses := true, apart := false, narrowed := true }
def FnExactResizeScreenUptoSaid : Prop := fnExactResizeScreenUptoRow.holds Try.pinned (OpenSpec.upto fnExactResizeScreenSpec)

/-- 'laws.FnExactScreenBytes', WHERE WHAT IT READS IS OF BULK AT MOST 1048576: true; the input reads as it did. -/
def fnExactScreenBytesUptoRow : OpenClaim := { program := "ytfabclhcceooaaa", sum := "244158d0427ff3cc958e1f895106834c9da9b6aed594f42df21fe85bc3c3bcfa", func := "loop.example/g00308/laws.FnExactScreenBytes", spec := "fnExactScreenBytes", inPlace := ["internal/abi.NoEscape"], unfollowed := true, recurses := true, apart := false, narrowed := true }
def FnExactScreenBytesUptoSaid : Prop := fnExactScreenBytesUptoRow.holds Try.pinned (OpenSpec.upto fnExactScreenBytesSpec)

/-- 'laws.FnExactReadScreen', WHERE WHAT IT READS IS OF BULK AT MOST 1048576: true; the input reads as it did. -/
def fnExactReadScreenUptoRow : OpenClaim := { program := "ytfabclhcceooaaa", sum := "244158d0427ff3cc958e1f895106834c9da9b6aed594f42df21fe85bc3c3bcfa", func := "loop.example/g00308/laws.FnExactReadScreen", spec := "fnExactReadScreen", inPlace := ["internal/abi.NoEscape"], unfollowed := true, recurses := true, apart := false, narrowed := true }
def FnExactReadScreenUptoSaid : Prop := fnExactReadScreenUptoRow.holds Try.pinned (OpenSpec.upto fnExactReadScreenSpec)

end Rows
end Go.Proofs.Ytfabclhcceooaaa
