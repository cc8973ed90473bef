/-
  No cell of these rows narrows 'for every input' (looked for: loops, veiled, ifaces, maps, wideKeys, modest, calm, conditions, laid).
  DERIVED. THE GIVEN ROWS OF THIS SEAT. 7 by the template 'for every input the law returns true; each argument reads behind the call as it read before'; 0 by the template 'total and deterministic' (their statements: YthbjkmcpnhfimaaTotals.lean).
  GIVEN WITH THE SEED: the statements are not yours to turn. If you find one false, say at which input.
  Laid BY PROGRAM, IN A SANDBOX (cutbox-rows.mjs): the forced cells as the released guide's own fill.sh prints them over the translation 179493bfa44f2fba… (all of the seat's roots in one cut). By AI agents, Wed Nov 11 2026. No macro, syntax, notation, axiom, sorry.
-/
import Derived.Test.YthbjkmcpnhfimaaChecked
import GoSem.Claim
import GoSem.ClaimJoined
import GoSem.ClaimMapViews
import Derived.JoinedTies
import Derived.KernelRfl
namespace Go.Proofs.Ythbjkmcpnhfimaa
/- THE CELL 'sum', in the pinned program and in every row, IS THE sha256 OF THE DUMP (.gsa) THAT YthbjkmcpnhfimaaProg.lean LOADS. Nothing in Lean hashes anything: it is a label: what it is worth is what the hold of that sum in a sandbox is worth. -/
noncomputable def Try.pinned : Pinned := { name := "ythbjkmcpnhfimaa", sum := "179493bfa44f2fbad17f83914a4e4bdf5f71a50488cd674d4f160ff0a8306dad", checked := Try.checked }
namespace Rows
def none {H : Type} : Left H := { results := [], args := [] }

/-- 'laws.FnExactCheck32': WHATEVER THE INPUT: true; the input reads as it did. -/
def fnExactCheck32Spec : ChangeSpec := { name := "fnExactCheck32", fn := fun _ => fun
  | [d] => { results := [.lit (.bool true)], args := [d] }
  | _ => none }
def fnExactCheck32Row : OpenClaim := { program := "ythbjkmcpnhfimaa", sum := "179493bfa44f2fbad17f83914a4e4bdf5f71a50488cd674d4f160ff0a8306dad", func := "loop.example/g00308/laws.FnExactCheck32", spec := "fnExactCheck32", unfollowed := true, recurses := true, apart := false }
def FnExactCheck32Said : Prop := fnExactCheck32Row.holds Try.pinned (OpenSpec.ofChange fnExactCheck32Spec)

/-- ITS FALSE NEIGHBOUR: 'it returns false'. Refute it at one input. -/
def fnExactCheck32Wrong : ChangeSpec := { name := "fnExactCheck32", fn := fun _ => fun
  | [d] => { results := [.lit (.bool false)], args := [d] }
  | _ => none }
def FnExactCheck32WrongFalsely : Prop := fnExactCheck32Row.holds Try.pinned (OpenSpec.ofChange fnExactCheck32Wrong)

/-- 'laws.FnExactFrameBytes': WHATEVER THE INPUT: true; the input reads as it did. -/
def fnExactFrameBytesSpec : ChangeSpec := { name := "fnExactFrameBytes", fn := fun _ => fun
  | [d] => { results := [.lit (.bool true)], args := [d] }
  | _ => none }
def fnExactFrameBytesRow : OpenClaim := { program := "ythbjkmcpnhfimaa", sum := "179493bfa44f2fbad17f83914a4e4bdf5f71a50488cd674d4f160ff0a8306dad", func := "loop.example/g00308/laws.FnExactFrameBytes", spec := "fnExactFrameBytes", unfollowed := true, recurses := true, apart := false }
def FnExactFrameBytesSaid : Prop := fnExactFrameBytesRow.holds Try.pinned (OpenSpec.ofChange fnExactFrameBytesSpec)

/-- ITS FALSE NEIGHBOUR: 'it returns false'. Refute it at one input. -/
def fnExactFrameBytesWrong : ChangeSpec := { name := "fnExactFrameBytes", fn := fun _ => fun
  | [d] => { results := [.lit (.bool false)], args := [d] }
  | _ => none }
def FnExactFrameBytesWrongFalsely : Prop := fnExactFrameBytesRow.holds Try.pinned (OpenSpec.ofChange fnExactFrameBytesWrong)

/-- 'laws.FnExactReadNumbers': WHATEVER THE INPUT: true; the input reads as it did. -/
def fnExactReadNumbersSpec : ChangeSpec := { name := "fnExactReadNumbers", fn := fun _ => fun
  | [d] => { results := [.lit (.bool true)], args := [d] }
  | _ => none }
def fnExactReadNumbersRow : OpenClaim := { program := "ythbjkmcpnhfimaa", sum := "179493bfa44f2fbad17f83914a4e4bdf5f71a50488cd674d4f160ff0a8306dad", func := "loop.example/g00308/laws.FnExactReadNumbers", spec := "fnExactReadNumbers", unfollowed := true, recurses := true, apart := false }
def FnExactReadNumbersSaid : Prop := fnExactReadNumbersRow.holds Try.pinned (OpenSpec.ofChange fnExactReadNumbersSpec)

/-- ITS FALSE NEIGHBOUR: 'it returns false'. Refute it at one input. -/
def fnExactReadNumbersWrong : ChangeSpec := { name := "fnExactReadNumbers", fn := fun _ => fun
  | [d] => { results := [.lit (.bool false)], args := [d] }
  | _ => none }
def FnExactReadNumbersWrongFalsely : Prop := fnExactReadNumbersRow.holds Try.pinned (OpenSpec.ofChange fnExactReadNumbersWrong)

/-- 'laws.FnExactNumbersBytes': WHATEVER THE INPUT: true; the input reads as it did. -/
def fnExactNumbersBytesSpec : ChangeSpec := { name := "fnExactNumbersBytes", fn := fun _ => fun
  | [d] => { results := [.lit (.bool true)], args := [d] }
  | _ => none }
def fnExactNumbersBytesRow : OpenClaim := { program := "ythbjkmcpnhfimaa", sum := "179493bfa44f2fbad17f83914a4e4bdf5f71a50488cd674d4f160ff0a8306dad", func := "loop.example/g00308/laws.FnExactNumbersBytes", spec := "fnExactNumbersBytes", inPlace := ["internal/abi.NoEscape"], unfollowed := true, recurses := true, apart := false }
def FnExactNumbersBytesSaid : Prop := fnExactNumbersBytesRow.holds Try.pinned (OpenSpec.ofChange fnExactNumbersBytesSpec)

/-- ITS FALSE NEIGHBOUR: 'it returns false'. Refute it at one input. -/
def fnExactNumbersBytesWrong : ChangeSpec := { name := "fnExactNumbersBytes", fn := fun _ => fun
  | [d] => { results := [.lit (.bool false)], args := [d] }
  | _ => none }
def FnExactNumbersBytesWrongFalsely : Prop := fnExactNumbersBytesRow.holds Try.pinned (OpenSpec.ofChange fnExactNumbersBytesWrong)

/-- 'laws.FnExactReadFields': WHATEVER THE INPUT: true; the input reads as it did. -/
def fnExactReadFieldsSpec : ChangeSpec := { name := "fnExactReadFields", fn := fun _ => fun
  | [d] => { results := [.lit (.bool true)], args := [d] }
  | _ => none }
def fnExactReadFieldsRow : OpenClaim := { program := "ythbjkmcpnhfimaa", sum := "179493bfa44f2fbad17f83914a4e4bdf5f71a50488cd674d4f160ff0a8306dad", func := "loop.example/g00308/laws.FnExactReadFields", spec := "fnExactReadFields", unfollowed := true, recurses := true, apart := false }
def FnExactReadFieldsSaid : Prop := fnExactReadFieldsRow.holds Try.pinned (OpenSpec.ofChange fnExactReadFieldsSpec)

/-- ITS FALSE NEIGHBOUR: 'it returns false'. Refute it at one input. -/
def fnExactReadFieldsWrong : ChangeSpec := { name := "fnExactReadFields", fn := fun _ => fun
  | [d] => { results := [.lit (.bool false)], args := [d] }
  | _ => none }
def FnExactReadFieldsWrongFalsely : Prop := fnExactReadFieldsRow.holds Try.pinned (OpenSpec.ofChange fnExactReadFieldsWrong)

/-- 'laws.FnExactFieldsBytes': WHATEVER THE INPUT: true; the input reads as it did. -/
def fnExactFieldsBytesSpec : ChangeSpec := { name := "fnExactFieldsBytes", fn := fun _ => fun
  | [d] => { results := [.lit (.bool true)], args := [d] }
  | _ => none }
def fnExactFieldsBytesRow : OpenClaim := { program := "ythbjkmcpnhfimaa", sum := "179493bfa44f2fbad17f83914a4e4bdf5f71a50488cd674d4f160ff0a8306dad", func := "loop.example/g00308/laws.FnExactFieldsBytes", spec := "fnExactFieldsBytes", inPlace := ["internal/abi.NoEscape"], unfollowed := true, recurses := true, apart := false }
def FnExactFieldsBytesSaid : Prop := fnExactFieldsBytesRow.holds Try.pinned (OpenSpec.ofChange fnExactFieldsBytesSpec)

/-- ITS FALSE NEIGHBOUR: 'it returns false'. Refute it at one input. -/
def fnExactFieldsBytesWrong : ChangeSpec := { name := "fnExactFieldsBytes", fn := fun _ => fun
  | [d] => { results := [.lit (.bool false)], args := [d] }
  | _ => none }
def FnExactFieldsBytesWrongFalsely : Prop := fnExactFieldsBytesRow.holds Try.pinned (OpenSpec.ofChange fnExactFieldsBytesWrong)

/-- 'laws.FnFields': WHATEVER THE INPUT: true; the input reads as it did. -/
def fnFieldsSpec : ChangeSpec := { name := "fnFields", fn := fun _ => fun
  | [d1, d2] => { results := [.lit (.bool true)], args := [d1, d2] }
  | _ => none }
def fnFieldsRow : OpenClaim := { program := "ythbjkmcpnhfimaa", sum := "179493bfa44f2fbad17f83914a4e4bdf5f71a50488cd674d4f160ff0a8306dad", func := "loop.example/g00308/laws.FnFields", spec := "fnFields", inPlace := ["internal/abi.NoEscape"], unfollowed := true, recurses := true, apart := false }
def FnFieldsSaid : Prop := fnFieldsRow.holds Try.pinned (OpenSpec.ofChange fnFieldsSpec)

/-- ITS FALSE NEIGHBOUR: 'it returns false'. Refute it at one input. -/
def fnFieldsWrong : ChangeSpec := { name := "fnFields", fn := fun _ => fun
  | [d1, d2] => { results := [.lit (.bool false)], args := [d1, d2] }
  | _ => none }
def FnFieldsWrongFalsely : Prop := fnFieldsRow.holds Try.pinned (OpenSpec.ofChange fnFieldsWrong)

/- THE SECOND FORM. 'bulk': how many values and letters a reading holds, each counted each time it is reached (what is shared counts as often as it is met; a slice's spare places count too). A statement '..UptoSaid' is the law's where the arguments, and the package variables that the reading takes, are together of bulk at most 1048576: NARROWER than '..Said'. Prove '..Said' where nothing that the law and all that it calls make is longer than what came in: it says more and counts as full. Else prove '..UptoSaid'. A law counts once. -/
mutual
def uptoBulk {H : Type} : DataW H → Nat
  | .lit (.string bytes) => bytes.length + 1
  | .lit _ => 1
  | .nil => 1
  | .ptr d => uptoBulk d + 1
  | .slice elems spare => uptoBulkAll elems + uptoBulkAll spare + 1
  | .agg parts => uptoBulkAll parts + 1
  | .iface _ d => uptoBulk d + 1
  | .map entries => uptoBulkEntries entries + 1
  | .held _ => 1
def uptoBulkAll {H : Type} : List (DataW H) → Nat
  | [] => 0
  | d :: r => uptoBulk d + uptoBulkAll r
def uptoBulkEntries {H : Type} : List (Lit × DataW H) → Nat
  | [] => 0
  | x :: r => uptoBulkEntry x + uptoBulkEntries r
def uptoBulkEntry {H : Type} : Lit × DataW H → Nat
  | (.string bytes, d) => bytes.length + uptoBulk d + 1
  | (_, d) => uptoBulk d + 1
 end
def uptoSmall : (H : Type) → List (DataW H) → Bool := fun _ ds => decide (uptoBulkAll ds ≤ 1048576)
def OpenSpec.upto (s : _root_.Go.ChangeSpec) : _root_.Go.OpenSpec := { _root_.Go.OpenSpec.ofChange s with cond := some uptoSmall }

/-- 'laws.FnExactCheck32', WHERE WHAT IT READS IS OF BULK AT MOST 1048576: true; the input reads as it did. -/
def fnExactCheck32UptoRow : OpenClaim := { program := "ythbjkmcpnhfimaa", sum := "179493bfa44f2fbad17f83914a4e4bdf5f71a50488cd674d4f160ff0a8306dad", func := "loop.example/g00308/laws.FnExactCheck32", spec := "fnExactCheck32", unfollowed := true, recurses := true, apart := false, narrowed := true }
def FnExactCheck32UptoSaid : Prop := fnExactCheck32UptoRow.holds Try.pinned (OpenSpec.upto fnExactCheck32Spec)

/-- 'laws.FnExactFrameBytes', WHERE WHAT IT READS IS OF BULK AT MOST 1048576: true; the input reads as it did. -/
def fnExactFrameBytesUptoRow : OpenClaim := { program := "ythbjkmcpnhfimaa", sum := "179493bfa44f2fbad17f83914a4e4bdf5f71a50488cd674d4f160ff0a8306dad", func := "loop.example/g00308/laws.FnExactFrameBytes", spec := "fnExactFrameBytes", unfollowed := true, recurses := true, apart := false, narrowed := true }
def FnExactFrameBytesUptoSaid : Prop := fnExactFrameBytesUptoRow.holds Try.pinned (OpenSpec.upto fnExactFrameBytesSpec)

/-- 'laws.FnExactReadNumbers', WHERE WHAT IT READS IS OF BULK AT MOST 1048576: true; the input reads as it did. -/
def fnExactReadNumbersUptoRow : OpenClaim := { program := "ythbjkmcpnhfimaa", sum := "179493bfa44f2fbad17f83914a4e4bdf5f71a50488cd674d4f160ff0a8306dad", func := "loop.example/g00308/laws.FnExactReadNumbers", spec := "fnExactReadNumbers", unfollowed := true, recurses := true, apart := false, narrowed := true }
def FnExactReadNumbersUptoSaid : Prop := fnExactReadNumbersUptoRow.holds Try.pinned (OpenSpec.upto fnExactReadNumbersSpec)

/-- 'laws.FnExactNumbersBytes', WHERE WHAT IT READS IS OF BULK AT MOST 1048576: true; the input reads as it did. -/
def fnExactNumbersBytesUptoRow : OpenClaim := { program := "ythbjkmcpnhfimaa", sum := "179493bfa44f2fbad17f83914a4e4bdf5f71a50488cd674d4f160ff0a8306dad", func := "loop.example/g00308/laws.FnExactNumbersBytes", spec := "fnExactNumbersBytes", inPlace := ["internal/abi.NoEscape"], unfollowed := true, recurses := true, apart := false, narrowed := true }
def FnExactNumbersBytesUptoSaid : Prop := fnExactNumbersBytesUptoRow.holds Try.pinned (OpenSpec.upto fnExactNumbersBytesSpec)

/-- 'laws.FnExactReadFields', WHERE WHAT IT READS IS OF BULK AT MOST 1048576: true; the input reads as it did. -/
def fnExactReadFieldsUptoRow : OpenClaim := { program := "ythbjkmcpnhfimaa", sum := "179493bfa44f2fbad17f83914a4e4bdf5f71a50488cd674d4f160ff0a8306dad", func := "loop.example/g00308/laws.FnExactReadFields", spec := "fnExactReadFields", unfollowed := true, recurses := true, apart := false, narrowed := true }
def FnExactReadFieldsUptoSaid : Prop := fnExactReadFieldsUptoRow.holds Try.pinned (OpenSpec.upto fnExactReadFieldsSpec)

/-- 'laws.FnExactFieldsBytes', WHERE WHAT IT READS IS OF BULK AT MOST 1048576: true; the input reads as it did. -/
def fnExactFieldsBytesUptoRow : OpenClaim := { program := "ythbjkmcpnhfimaa", sum := "179493bfa44f2fbad17f83914a4e4bdf5f71a50488cd674d4f160ff0a8306dad", func := "loop.example/g00308/laws.FnExactFieldsBytes", spec := "fnExactFieldsBytes", inPlace := ["internal/abi.NoEscape"], unfollowed := true, recurses := true, apart := false, narrowed := true }
def FnExactFieldsBytesUptoSaid : Prop := fnExactFieldsBytesUptoRow.holds Try.pinned (OpenSpec.upto fnExactFieldsBytesSpec)

/-- 'laws.FnFields', WHERE WHAT IT READS IS OF BULK AT MOST 1048576: true; the input reads as it did. -/
def fnFieldsUptoRow : OpenClaim := { program := "ythbjkmcpnhfimaa", sum := "179493bfa44f2fbad17f83914a4e4bdf5f71a50488cd674d4f160ff0a8306dad", func := "loop.example/g00308/laws.FnFields", spec := "fnFields", inPlace := ["internal/abi.NoEscape"], unfollowed := true, recurses := true, apart := false, narrowed := true }
def FnFieldsUptoSaid : Prop := fnFieldsUptoRow.holds Try.pinned (OpenSpec.upto fnFieldsSpec)

end Rows
end Go.Proofs.Ythbjkmcpnhfimaa
