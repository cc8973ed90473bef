/-
  No cell of these rows narrows 'for every input' (looked for: loops, veiled, ifaces, maps, wideKeys, modest, calm, conditions, laid).
  DERIVED. THE GIVEN ROWS OF THIS SEAT. 9 by the template 'for every input the law returns true; each argument reads behind the call as it read before'; 0 by the template 'total and deterministic' (their statements: YtepamcfaiahmbaaTotals.lean).
  GIVEN WITH THE SEED: the statements are not yours to turn. If you find one false, say at which input.
  Laid BY PROGRAM, IN A SANDBOX (cutbox-rows.mjs): the forced cells as the released guide's own fill.sh prints them over the translation e09272d79ef05f51… (all of the seat's roots in one cut). By AI agents, Wed Nov 11 2026. No macro, syntax, notation, axiom, sorry.
-/
import Derived.Test.YtepamcfaiahmbaaChecked
import GoSem.Claim
import GoSem.ClaimJoined
import GoSem.ClaimMapViews
import Derived.JoinedTies
import Derived.KernelRfl
namespace Go.Proofs.Ytepamcfaiahmbaa
/- THE CELL 'sum', in the pinned program and in every row, IS THE sha256 OF THE DUMP (.gsa) THAT YtepamcfaiahmbaaProg.lean LOADS. Nothing in Lean hashes anything: it is a label: what it is worth is what the hold of that sum in a sandbox is worth. -/
noncomputable def Try.pinned : Pinned := { name := "ytepamcfaiahmbaa", sum := "e09272d79ef05f512a90e072ed768721e73a83a8966853c9e9931a59fc1fe36c", checked := Try.checked }
namespace Rows
def none {H : Type} : Left H := { results := [], args := [] }

/-- 'laws.FnExactOneLayout': WHATEVER THE INPUT: true; the input reads as it did. -/
def fnExactOneLayoutSpec : ChangeSpec := { name := "fnExactOneLayout", fn := fun _ => fun
  | [d] => { results := [.lit (.bool true)], args := [d] }
  | _ => none }
def fnExactOneLayoutRow : OpenClaim := { program := "ytepamcfaiahmbaa", sum := "e09272d79ef05f512a90e072ed768721e73a83a8966853c9e9931a59fc1fe36c", func := "loop.example/g00308/laws.FnExactOneLayout", spec := "fnExactOneLayout", unfollowed := true, recurses := true, apart := false }
def FnExactOneLayoutSaid : Prop := fnExactOneLayoutRow.holds Try.pinned (OpenSpec.ofChange fnExactOneLayoutSpec)

/-- ITS FALSE NEIGHBOUR: 'it returns false'. Refute it at one input. -/
def fnExactOneLayoutWrong : ChangeSpec := { name := "fnExactOneLayout", fn := fun _ => fun
  | [d] => { results := [.lit (.bool false)], args := [d] }
  | _ => none }
def FnExactOneLayoutWrongFalsely : Prop := fnExactOneLayoutRow.holds Try.pinned (OpenSpec.ofChange fnExactOneLayoutWrong)

/-- 'laws.FnExactLayoutOK': WHATEVER THE INPUT: true; the input reads as it did. -/
def fnExactLayoutOKSpec : ChangeSpec := { name := "fnExactLayoutOK", fn := fun _ => fun
  | [d1, d2, d3] => { results := [.lit (.bool true)], args := [d1, d2, d3] }
  | _ => none }
def fnExactLayoutOKRow : OpenClaim := { program := "ytepamcfaiahmbaa", sum := "e09272d79ef05f512a90e072ed768721e73a83a8966853c9e9931a59fc1fe36c", func := "loop.example/g00308/laws.FnExactLayoutOK", spec := "fnExactLayoutOK", recurses := true, apart := false }
def FnExactLayoutOKSaid : Prop := fnExactLayoutOKRow.holds Try.pinned (OpenSpec.ofChange fnExactLayoutOKSpec)

/-- ITS FALSE NEIGHBOUR: 'it returns false'. Refute it at one input. -/
def fnExactLayoutOKWrong : ChangeSpec := { name := "fnExactLayoutOK", fn := fun _ => fun
  | [d1, d2, d3] => { results := [.lit (.bool false)], args := [d1, d2, d3] }
  | _ => none }
def FnExactLayoutOKWrongFalsely : Prop := fnExactLayoutOKRow.holds Try.pinned (OpenSpec.ofChange fnExactLayoutOKWrong)

/-- 'laws.FnExactLayoutAreas': WHATEVER THE INPUT: true; the input reads as it did. -/
def fnExactLayoutAreasSpec : ChangeSpec := { name := "fnExactLayoutAreas", fn := fun _ => fun
  | [d1, d2, d3] => { results := [.lit (.bool true)], args := [d1, d2, d3] }
  | _ => none }
def fnExactLayoutAreasRow : OpenClaim := { program := "ytepamcfaiahmbaa", sum := "e09272d79ef05f512a90e072ed768721e73a83a8966853c9e9931a59fc1fe36c", func := "loop.example/g00308/laws.FnExactLayoutAreas", spec := "fnExactLayoutAreas", recurses := true, apart := false }
def FnExactLayoutAreasSaid : Prop := fnExactLayoutAreasRow.holds Try.pinned (OpenSpec.ofChange fnExactLayoutAreasSpec)

/-- ITS FALSE NEIGHBOUR: 'it returns false'. Refute it at one input. -/
def fnExactLayoutAreasWrong : ChangeSpec := { name := "fnExactLayoutAreas", fn := fun _ => fun
  | [d1, d2, d3] => { results := [.lit (.bool false)], args := [d1, d2, d3] }
  | _ => none }
def FnExactLayoutAreasWrongFalsely : Prop := fnExactLayoutAreasRow.holds Try.pinned (OpenSpec.ofChange fnExactLayoutAreasWrong)

/-- 'laws.FnExactFitLayout': WHATEVER THE INPUT: true; the input reads as it did. -/
def fnExactFitLayoutSpec : ChangeSpec := { name := "fnExactFitLayout", fn := fun _ => fun
  | [d1, d2, d3, d4, d5] => { results := [.lit (.bool true)], args := [d1, d2, d3, d4, d5] }
  | _ => none }
def fnExactFitLayoutRow : OpenClaim := { program := "ytepamcfaiahmbaa", sum := "e09272d79ef05f512a90e072ed768721e73a83a8966853c9e9931a59fc1fe36c", func := "loop.example/g00308/laws.FnExactFitLayout", spec := "fnExactFitLayout", unfollowed := true, recurses := true, apart := false }
def FnExactFitLayoutSaid : Prop := fnExactFitLayoutRow.holds Try.pinned (OpenSpec.ofChange fnExactFitLayoutSpec)

/-- ITS FALSE NEIGHBOUR: 'it returns false'. Refute it at one input. -/
def fnExactFitLayoutWrong : ChangeSpec := { name := "fnExactFitLayout", fn := fun _ => fun
  | [d1, d2, d3, d4, d5] => { results := [.lit (.bool false)], args := [d1, d2, d3, d4, d5] }
  | _ => none }
def FnExactFitLayoutWrongFalsely : Prop := fnExactFitLayoutRow.holds Try.pinned (OpenSpec.ofChange fnExactFitLayoutWrong)

/-- 'laws.FnExactSplitArea': WHATEVER THE INPUT: true; the input reads as it did. -/
def fnExactSplitAreaSpec : ChangeSpec := { name := "fnExactSplitArea", fn := fun _ => fun
  | [d1, d2, d3, d4, d5, d6] => { results := [.lit (.bool true)], args := [d1, d2, d3, d4, d5, d6] }
  | _ => none }
def fnExactSplitAreaRow : OpenClaim := { program := "ytepamcfaiahmbaa", sum := "e09272d79ef05f512a90e072ed768721e73a83a8966853c9e9931a59fc1fe36c", func := "loop.example/g00308/laws.FnExactSplitArea", spec := "fnExactSplitArea", unfollowed := true, recurses := true, apart := false }
def FnExactSplitAreaSaid : Prop := fnExactSplitAreaRow.holds Try.pinned (OpenSpec.ofChange fnExactSplitAreaSpec)

/-- ITS FALSE NEIGHBOUR: 'it returns false'. Refute it at one input. -/
def fnExactSplitAreaWrong : ChangeSpec := { name := "fnExactSplitArea", fn := fun _ => fun
  | [d1, d2, d3, d4, d5, d6] => { results := [.lit (.bool false)], args := [d1, d2, d3, d4, d5, d6] }
  | _ => none }
def FnExactSplitAreaWrongFalsely : Prop := fnExactSplitAreaRow.holds Try.pinned (OpenSpec.ofChange fnExactSplitAreaWrong)

/-- 'laws.FnExactMoveSplit': WHATEVER THE INPUT: true; the input reads as it did. -/
def fnExactMoveSplitSpec : ChangeSpec := { name := "fnExactMoveSplit", fn := fun _ => fun
  | [d1, d2, d3, d4, d5] => { results := [.lit (.bool true)], args := [d1, d2, d3, d4, d5] }
  | _ => none }
def fnExactMoveSplitRow : OpenClaim := { program := "ytepamcfaiahmbaa", sum := "e09272d79ef05f512a90e072ed768721e73a83a8966853c9e9931a59fc1fe36c", func := "loop.example/g00308/laws.FnExactMoveSplit", spec := "fnExactMoveSplit", unfollowed := true, recurses := true, apart := false }
def FnExactMoveSplitSaid : Prop := fnExactMoveSplitRow.holds Try.pinned (OpenSpec.ofChange fnExactMoveSplitSpec)

/-- ITS FALSE NEIGHBOUR: 'it returns false'. Refute it at one input. -/
def fnExactMoveSplitWrong : ChangeSpec := { name := "fnExactMoveSplit", fn := fun _ => fun
  | [d1, d2, d3, d4, d5] => { results := [.lit (.bool false)], args := [d1, d2, d3, d4, d5] }
  | _ => none }
def FnExactMoveSplitWrongFalsely : Prop := fnExactMoveSplitRow.holds Try.pinned (OpenSpec.ofChange fnExactMoveSplitWrong)

/-- 'laws.FnExactKillArea': WHATEVER THE INPUT: true; the input reads as it did. -/
def fnExactKillAreaSpec : ChangeSpec := { name := "fnExactKillArea", fn := fun _ => fun
  | [d1, d2, d3, d4] => { results := [.lit (.bool true)], args := [d1, d2, d3, d4] }
  | _ => none }
def fnExactKillAreaRow : OpenClaim := { program := "ytepamcfaiahmbaa", sum := "e09272d79ef05f512a90e072ed768721e73a83a8966853c9e9931a59fc1fe36c", func := "loop.example/g00308/laws.FnExactKillArea", spec := "fnExactKillArea", unfollowed := true, recurses := true, apart := false }
def FnExactKillAreaSaid : Prop := fnExactKillAreaRow.holds Try.pinned (OpenSpec.ofChange fnExactKillAreaSpec)

/-- ITS FALSE NEIGHBOUR: 'it returns false'. Refute it at one input. -/
def fnExactKillAreaWrong : ChangeSpec := { name := "fnExactKillArea", fn := fun _ => fun
  | [d1, d2, d3, d4] => { results := [.lit (.bool false)], args := [d1, d2, d3, d4] }
  | _ => none }
def FnExactKillAreaWrongFalsely : Prop := fnExactKillAreaRow.holds Try.pinned (OpenSpec.ofChange fnExactKillAreaWrong)

/-- 'laws.FnAreas': WHATEVER THE INPUT: true; the input reads as it did. -/
def fnAreasSpec : ChangeSpec := { name := "fnAreas", fn := fun _ => fun
  | [d1, d2] => { results := [.lit (.bool true)], args := [d1, d2] }
  | _ => none }
def fnAreasRow : OpenClaim := { program := "ytepamcfaiahmbaa", sum := "e09272d79ef05f512a90e072ed768721e73a83a8966853c9e9931a59fc1fe36c", func := "loop.example/g00308/laws.FnAreas", spec := "fnAreas", recurses := true, apart := false }
def FnAreasSaid : Prop := fnAreasRow.holds Try.pinned (OpenSpec.ofChange fnAreasSpec)

/-- ITS FALSE NEIGHBOUR: 'it returns false'. Refute it at one input. -/
def fnAreasWrong : ChangeSpec := { name := "fnAreas", fn := fun _ => fun
  | [d1, d2] => { results := [.lit (.bool false)], args := [d1, d2] }
  | _ => none }
def FnAreasWrongFalsely : Prop := fnAreasRow.holds Try.pinned (OpenSpec.ofChange fnAreasWrong)

/-- 'laws.FnMoves': WHATEVER THE INPUT: true; the input reads as it did. -/
def fnMovesSpec : ChangeSpec := { name := "fnMoves", fn := fun _ => fun
  | [d1, d2] => { results := [.lit (.bool true)], args := [d1, d2] }
  | _ => none }
def fnMovesRow : OpenClaim := { program := "ytepamcfaiahmbaa", sum := "e09272d79ef05f512a90e072ed768721e73a83a8966853c9e9931a59fc1fe36c", func := "loop.example/g00308/laws.FnMoves", spec := "fnMoves", unfollowed := true, recurses := true, apart := false }
def FnMovesSaid : Prop := fnMovesRow.holds Try.pinned (OpenSpec.ofChange fnMovesSpec)

/-- ITS FALSE NEIGHBOUR: 'it returns false'. Refute it at one input. -/
def fnMovesWrong : ChangeSpec := { name := "fnMoves", fn := fun _ => fun
  | [d1, d2] => { results := [.lit (.bool false)], args := [d1, d2] }
  | _ => none }
def FnMovesWrongFalsely : Prop := fnMovesRow.holds Try.pinned (OpenSpec.ofChange fnMovesWrong)

/- THE SECOND FORM. 'bulk': how many values and letters a reading holds, each counted each time it is reached (what is shared counts as often as it is met; a slice's spare places count too). A statement '..UptoSaid' is the law's where the arguments, and the package variables that the reading takes, are together of bulk at most 1048576: NARROWER than '..Said'. Prove '..Said' where nothing that the law and all that it calls make is longer than what came in: it says more and counts as full. Else prove '..UptoSaid'. A law counts once. -/
mutual
def uptoBulk {H : Type} : DataW H → Nat
  | .lit (.string bytes) => bytes.length + 1
  | .lit _ => 1
  | .nil => 1
  | .ptr d => uptoBulk d + 1
  | .slice elems spare => uptoBulkAll elems + uptoBulkAll spare + 1
  | .agg parts => uptoBulkAll parts + 1
  | .iface _ d => uptoBulk d + 1
  | .map entries => uptoBulkEntries entries + 1
  | .held _ => 1
def uptoBulkAll {H : Type} : List (DataW H) → Nat
  | [] => 0
  | d :: r => uptoBulk d + uptoBulkAll r
def uptoBulkEntries {H : Type} : List (Lit × DataW H) → Nat
  | [] => 0
  | x :: r => uptoBulkEntry x + uptoBulkEntries r
def uptoBulkEntry {H : Type} : Lit × DataW H → Nat
  | (.string bytes, d) => bytes.length + uptoBulk d + 1
  | (_, d) => uptoBulk d + 1
 end
def uptoSmall : (H : Type) → List (DataW H) → Bool := fun _ ds => decide (uptoBulkAll ds ≤ 1048576)
def OpenSpec.upto (s : _root_.Go.ChangeSpec) : _root_.Go.OpenSpec := { _root_.Go.OpenSpec.ofChange s with cond := some uptoSmall }

/-- 'laws.FnExactOneLayout', WHERE WHAT IT READS IS OF BULK AT MOST 1048576: true; the input reads as it did. -/
def fnExactOneLayoutUptoRow : OpenClaim := { program := "ytepamcfaiahmbaa", sum := "e09272d79ef05f512a90e072ed768721e73a83a8966853c9e9931a59fc1fe36c", func := "loop.example/g00308/laws.FnExactOneLayout", spec := "fnExactOneLayout", unfollowed := true, recurses := true, apart := false, narrowed := true }
def FnExactOneLayoutUptoSaid : Prop := fnExactOneLayoutUptoRow.holds Try.pinned (OpenSpec.upto fnExactOneLayoutSpec)

/-- 'laws.FnExactLayoutOK', WHERE WHAT IT READS IS OF BULK AT MOST 1048576: true; the input reads as it did. -/
def fnExactLayoutOKUptoRow : OpenClaim := { program := "ytepamcfaiahmbaa", sum := "e09272d79ef05f512a90e072ed768721e73a83a8966853c9e9931a59fc1fe36c", func := "loop.example/g00308/laws.FnExactLayoutOK", spec := "fnExactLayoutOK", recurses := true, apart := false, narrowed := true }
def FnExactLayoutOKUptoSaid : Prop := fnExactLayoutOKUptoRow.holds Try.pinned (OpenSpec.upto fnExactLayoutOKSpec)

/-- 'laws.FnExactLayoutAreas', WHERE WHAT IT READS IS OF BULK AT MOST 1048576: true; the input reads as it did. -/
def fnExactLayoutAreasUptoRow : OpenClaim := { program := "ytepamcfaiahmbaa", sum := "e09272d79ef05f512a90e072ed768721e73a83a8966853c9e9931a59fc1fe36c", func := "loop.example/g00308/laws.FnExactLayoutAreas", spec := "fnExactLayoutAreas", recurses := true, apart := false, narrowed := true }
def FnExactLayoutAreasUptoSaid : Prop := fnExactLayoutAreasUptoRow.holds Try.pinned (OpenSpec.upto fnExactLayoutAreasSpec)

/-- 'laws.FnExactFitLayout', WHERE WHAT IT READS IS OF BULK AT MOST 1048576: true; the input reads as it did. -/
def fnExactFitLayoutUptoRow : OpenClaim := { program := "ytepamcfaiahmbaa", sum := "e09272d79ef05f512a90e072ed768721e73a83a8966853c9e9931a59fc1fe36c", func := "loop.example/g00308/laws.FnExactFitLayout", spec := "fnExactFitLayout", unfollowed := true, recurses := true, apart := false, narrowed := true }
def FnExactFitLayoutUptoSaid : Prop := fnExactFitLayoutUptoRow.holds Try.pinned (OpenSpec.upto fnExactFitLayoutSpec)

/-- 'laws.FnExactSplitArea', WHERE WHAT IT READS IS OF BULK AT MOST 1048576: true; the input reads as it did. -/
def fnExactSplitAreaUptoRow : OpenClaim := { program := "ytepamcfaiahmbaa", sum := "e09272d79ef05f512a90e072ed768721e73a83a8966853c9e9931a59fc1fe36c", func := "loop.example/g00308/laws.FnExactSplitArea", spec := "fnExactSplitArea", unfollowed := true, recurses := true, apart := false, narrowed := true }
def FnExactSplitAreaUptoSaid : Prop := fnExactSplitAreaUptoRow.holds Try.pinned (OpenSpec.upto fnExactSplitAreaSpec)

/-- 'laws.FnExactMoveSplit', WHERE WHAT IT READS IS OF BULK AT MOST 1048576: true; the input reads as it did. -/
def fnExactMoveSplitUptoRow : OpenClaim := { program := "ytepamcfaiahmbaa", sum := "e09272d79ef05f512a90e072ed768721e73a83a8966853c9e9931a59fc1fe36c", func := "loop.example/g00308/laws.FnExactMoveSplit", spec := "fnExactMoveSplit", unfollowed := true, recurses := true, apart := false, narrowed := true }
def FnExactMoveSplitUptoSaid : Prop := fnExactMoveSplitUptoRow.holds Try.pinned (OpenSpec.upto fnExactMoveSplitSpec)

/-- 'laws.FnExactKillArea', WHERE WHAT IT READS IS OF BULK AT MOST 1048576: true; the input reads as it did. -/
def fnExactKillAreaUptoRow : OpenClaim := { program := "ytepamcfaiahmbaa", sum := "e09272d79ef05f512a90e072ed768721e73a83a8966853c9e9931a59fc1fe36c", func := "loop.example/g00308/laws.FnExactKillArea", spec := "fnExactKillArea", unfollowed := true, recurses := true, apart := false, narrowed := true }
def FnExactKillAreaUptoSaid : Prop := fnExactKillAreaUptoRow.holds Try.pinned (OpenSpec.upto fnExactKillAreaSpec)

/-- 'laws.FnAreas', WHERE WHAT IT READS IS OF BULK AT MOST 1048576: true; the input reads as it did. -/
def fnAreasUptoRow : OpenClaim := { program := "ytepamcfaiahmbaa", sum := "e09272d79ef05f512a90e072ed768721e73a83a8966853c9e9931a59fc1fe36c", func := "loop.example/g00308/laws.FnAreas", spec := "fnAreas", recurses := true, apart := false, narrowed := true }
def FnAreasUptoSaid : Prop := fnAreasUptoRow.holds Try.pinned (OpenSpec.upto fnAreasSpec)

/-- 'laws.FnMoves', WHERE WHAT IT READS IS OF BULK AT MOST 1048576: true; the input reads as it did. -/
def fnMovesUptoRow : OpenClaim := { program := "ytepamcfaiahmbaa", sum := "e09272d79ef05f512a90e072ed768721e73a83a8966853c9e9931a59fc1fe36c", func := "loop.example/g00308/laws.FnMoves", spec := "fnMoves", unfollowed := true, recurses := true, apart := false, narrowed := true }
def FnMovesUptoSaid : Prop := fnMovesUptoRow.holds Try.pinned (OpenSpec.upto fnMovesSpec)

end Rows
end Go.Proofs.Ytepamcfaiahmbaa
