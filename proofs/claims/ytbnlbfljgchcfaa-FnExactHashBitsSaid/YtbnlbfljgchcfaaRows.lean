/-
  No cell of these rows narrows 'for every input' (looked for: loops, veiled, ifaces, maps, wideKeys, modest, calm, conditions, laid).
  DERIVED. THE GIVEN ROWS OF THIS SEAT. 4 by the template 'for every input the law returns true; each argument reads behind the call as it read before'; 0 by the template 'total and deterministic' (their statements: YtbnlbfljgchcfaaTotals.lean).
  GIVEN WITH THE SEED: the statements are not yours to turn. If you find one false, say at which input.
  Laid BY PROGRAM, IN A SANDBOX (cutbox-rows.mjs): the forced cells as the released guide's own fill.sh prints them over the translation 95b48c5fb3623d4d… (all of the seat's roots in one cut). By AI agents, Wed Nov 11 2026. No macro, syntax, notation, axiom, sorry.
-/
import Derived.Test.YtbnlbfljgchcfaaChecked
import GoSem.Claim
import GoSem.ClaimJoined
import GoSem.ClaimMapViews
import Derived.JoinedTies
import Derived.KernelRfl
namespace Go.Proofs.Ytbnlbfljgchcfaa
/- THE CELL 'sum', in the pinned program and in every row, IS THE sha256 OF THE DUMP (.gsa) THAT YtbnlbfljgchcfaaProg.lean LOADS. Nothing in Lean hashes anything: it is a label: what it is worth is what the hold of that sum in a sandbox is worth. -/
noncomputable def Try.pinned : Pinned := { name := "ytbnlbfljgchcfaa", sum := "95b48c5fb3623d4d52ee64b79dc05f001558142f081229cd0eeb45d85a03f4e0", checked := Try.checked }
namespace Rows
def none {H : Type} : Left H := { results := [], args := [] }

/-- 'laws.FnExactConstants': WHATEVER THE INPUT: true; the input reads as it did. -/
def fnExactConstantsSpec : ChangeSpec := { name := "fnExactConstants", fn := fun _ => fun
  | [] => { results := [.lit (.bool true)], args := [] }
  | _ => none }
def fnExactConstantsRow : OpenClaim := { program := "ytbnlbfljgchcfaa", sum := "95b48c5fb3623d4d52ee64b79dc05f001558142f081229cd0eeb45d85a03f4e0", func := "loop.example/g00308/laws.FnExactConstants", spec := "fnExactConstants", apart := false }
def FnExactConstantsSaid : Prop := fnExactConstantsRow.holds Try.pinned (OpenSpec.ofChange fnExactConstantsSpec)

/-- ITS FALSE NEIGHBOUR: 'it returns false'. Refute it at one input. -/
def fnExactConstantsWrong : ChangeSpec := { name := "fnExactConstants", fn := fun _ => fun
  | [] => { results := [.lit (.bool false)], args := [] }
  | _ => none }
def FnExactConstantsWrongFalsely : Prop := fnExactConstantsRow.holds Try.pinned (OpenSpec.ofChange fnExactConstantsWrong)

/-- 'laws.FnExactNameOK': WHATEVER THE INPUT: true; the input reads as it did. -/
def fnExactNameOKSpec : ChangeSpec := { name := "fnExactNameOK", fn := fun _ => fun
  | [d] => { results := [.lit (.bool true)], args := [d] }
  | _ => none }
def fnExactNameOKRow : OpenClaim := { program := "ytbnlbfljgchcfaa", sum := "95b48c5fb3623d4d52ee64b79dc05f001558142f081229cd0eeb45d85a03f4e0", func := "loop.example/g00308/laws.FnExactNameOK", spec := "fnExactNameOK", apart := false }
def FnExactNameOKSaid : Prop := fnExactNameOKRow.holds Try.pinned (OpenSpec.ofChange fnExactNameOKSpec)

/-- ITS FALSE NEIGHBOUR: 'it returns false'. Refute it at one input. -/
def fnExactNameOKWrong : ChangeSpec := { name := "fnExactNameOK", fn := fun _ => fun
  | [d] => { results := [.lit (.bool false)], args := [d] }
  | _ => none }
def FnExactNameOKWrongFalsely : Prop := fnExactNameOKRow.holds Try.pinned (OpenSpec.ofChange fnExactNameOKWrong)

/-- 'laws.FnExactHashText': WHATEVER THE INPUT: true; the input reads as it did. -/
def fnExactHashTextSpec : ChangeSpec := { name := "fnExactHashText", fn := fun _ => fun
  | [d] => { results := [.lit (.bool true)], args := [d] }
  | _ => none }
def fnExactHashTextRow : OpenClaim := { program := "ytbnlbfljgchcfaa", sum := "95b48c5fb3623d4d52ee64b79dc05f001558142f081229cd0eeb45d85a03f4e0", func := "loop.example/g00308/laws.FnExactHashText", spec := "fnExactHashText", unfollowed := true, recurses := true, apart := false }
def FnExactHashTextSaid : Prop := fnExactHashTextRow.holds Try.pinned (OpenSpec.ofChange fnExactHashTextSpec)

/-- ITS FALSE NEIGHBOUR: 'it returns false'. Refute it at one input. -/
def fnExactHashTextWrong : ChangeSpec := { name := "fnExactHashText", fn := fun _ => fun
  | [d] => { results := [.lit (.bool false)], args := [d] }
  | _ => none }
def FnExactHashTextWrongFalsely : Prop := fnExactHashTextRow.holds Try.pinned (OpenSpec.ofChange fnExactHashTextWrong)

/-- 'laws.FnExactHashBits': WHATEVER THE INPUT: true; the input reads as it did. -/
def fnExactHashBitsSpec : ChangeSpec := { name := "fnExactHashBits", fn := fun _ => fun
  | [d] => { results := [.lit (.bool true)], args := [d] }
  | _ => none }
def fnExactHashBitsRow : OpenClaim := { program := "ytbnlbfljgchcfaa", sum := "95b48c5fb3623d4d52ee64b79dc05f001558142f081229cd0eeb45d85a03f4e0", func := "loop.example/g00308/laws.FnExactHashBits", spec := "fnExactHashBits", inPlace := ["internal/abi.NoEscape"], unfollowed := true, recurses := true, apart := false }
def FnExactHashBitsSaid : Prop := fnExactHashBitsRow.holds Try.pinned (OpenSpec.ofChange fnExactHashBitsSpec)

/-- ITS FALSE NEIGHBOUR: 'it returns false'. Refute it at one input. -/
def fnExactHashBitsWrong : ChangeSpec := { name := "fnExactHashBits", fn := fun _ => fun
  | [d] => { results := [.lit (.bool false)], args := [d] }
  | _ => none }
def FnExactHashBitsWrongFalsely : Prop := fnExactHashBitsRow.holds Try.pinned (OpenSpec.ofChange fnExactHashBitsWrong)

/- THE SECOND FORM. 'bulk': how many values and letters a reading holds, each counted each time it is reached (what is shared counts as often as it is met; a slice's spare places count too). A statement '..UptoSaid' is the law's where the arguments, and the package variables that the reading takes, are together of bulk at most 1048576: NARROWER than '..Said'. Prove '..Said' where nothing that the law and all that it calls make is longer than what came in: it says more and counts as full. Else prove '..UptoSaid'. A law counts once. -/
mutual
def uptoBulk {H : Type} : DataW H → Nat
  | .lit (.string bytes) => bytes.length + 1
  | .lit _ => 1
  | .nil => 1
  | .ptr d => uptoBulk d + 1
  | .slice elems spare => uptoBulkAll elems + uptoBulkAll spare + 1
  | .agg parts => uptoBulkAll parts + 1
  | .iface _ d => uptoBulk d + 1
  | .map entries => uptoBulkEntries entries + 1
  | .held _ => 1
def uptoBulkAll {H : Type} : List (DataW H) → Nat
  | [] => 0
  | d :: r => uptoBulk d + uptoBulkAll r
def uptoBulkEntries {H : Type} : List (Lit × DataW H) → Nat
  | [] => 0
  | x :: r => uptoBulkEntry x + uptoBulkEntries r
def uptoBulkEntry {H : Type} : Lit × DataW H → Nat
  | (.string bytes, d) => bytes.length + uptoBulk d + 1
  | (_, d) => uptoBulk d + 1
 end
def uptoSmall : (H : Type) → List (DataW H) → Bool := fun _ ds => decide (uptoBulkAll ds ≤ 1048576)
def OpenSpec.upto (s : _root_.Go.ChangeSpec) : _root_.Go.OpenSpec := { _root_.Go.OpenSpec.ofChange s with cond := some uptoSmall }

/-- 'laws.FnExactConstants', WHERE WHAT IT READS IS OF BULK AT MOST 1048576: true; the input reads as it did. -/
def fnExactConstantsUptoRow : OpenClaim := { program := "ytbnlbfljgchcfaa", sum := "95b48c5fb3623d4d52ee64b79dc05f001558142f081229cd0eeb45d85a03f4e0", func := "loop.example/g00308/laws.FnExactConstants", spec := "fnExactConstants", apart := false, narrowed := true }
def FnExactConstantsUptoSaid : Prop := fnExactConstantsUptoRow.holds Try.pinned (OpenSpec.upto fnExactConstantsSpec)

/-- 'laws.FnExactNameOK', WHERE WHAT IT READS IS OF BULK AT MOST 1048576: true; the input reads as it did. -/
def fnExactNameOKUptoRow : OpenClaim := { program := "ytbnlbfljgchcfaa", sum := "95b48c5fb3623d4d52ee64b79dc05f001558142f081229cd0eeb45d85a03f4e0", func := "loop.example/g00308/laws.FnExactNameOK", spec := "fnExactNameOK", apart := false, narrowed := true }
def FnExactNameOKUptoSaid : Prop := fnExactNameOKUptoRow.holds Try.pinned (OpenSpec.upto fnExactNameOKSpec)

/-- 'laws.FnExactHashText', WHERE WHAT IT READS IS OF BULK AT MOST 1048576: true; the input reads as it did. -/
def fnExactHashTextUptoRow : OpenClaim := { program := "ytbnlbfljgchcfaa", sum := "95b48c5fb3623d4d52ee64b79dc05f001558142f081229cd0eeb45d85a03f4e0", func := "loop.example/g00308/laws.FnExactHashText", spec := "fnExactHashText", unfollowed := true, recurses := true, apart := false, narrowed := true }
def FnExactHashTextUptoSaid : Prop := fnExactHashTextUptoRow.holds Try.pinned (OpenSpec.upto fnExactHashTextSpec)

/-- 'laws.FnExactHashBits', WHERE WHAT IT READS IS OF BULK AT MOST 1048576: true; the input reads as it did. -/
def fnExactHashBitsUptoRow : OpenClaim := { program := "ytbnlbfljgchcfaa", sum := "95b48c5fb3623d4d52ee64b79dc05f001558142f081229cd0eeb45d85a03f4e0", func := "loop.example/g00308/laws.FnExactHashBits", spec := "fnExactHashBits", inPlace := ["internal/abi.NoEscape"], unfollowed := true, recurses := true, apart := false, narrowed := true }
def FnExactHashBitsUptoSaid : Prop := fnExactHashBitsUptoRow.holds Try.pinned (OpenSpec.upto fnExactHashBitsSpec)

end Rows
end Go.Proofs.Ytbnlbfljgchcfaa
