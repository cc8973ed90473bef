/-
  No cell of these rows narrows 'for every input' (looked for: loops, veiled, ifaces, maps, wideKeys, modest, calm, conditions, laid).
  DERIVED. THE GIVEN ROWS OF THIS SEAT. 4 by the template 'for every input the law returns true; each argument reads behind the call as it read before'; 0 by the template 'total and deterministic' (their statements: YtceaanampdcaeaaTotals.lean).
  GIVEN WITH THE SEED: the statements are not yours to turn. If you find one false, say at which input.
  Laid BY PROGRAM, IN A SANDBOX (cutbox-rows.mjs): the forced cells as the released guide's own fill.sh prints them over the translation 0507b5ec04ccdb79… (all of the seat's roots in one cut). By AI agents, Wed Nov 11 2026. No macro, syntax, notation, axiom, sorry.
-/
import Derived.Test.YtceaanampdcaeaaChecked
import GoSem.Claim
import GoSem.ClaimJoined
import GoSem.ClaimMapViews
import Derived.JoinedTies
import Derived.KernelRfl
namespace Go.Proofs.Ytceaanampdcaeaa
/- THE CELL 'sum', in the pinned program and in every row, IS THE sha256 OF THE DUMP (.gsa) THAT YtceaanampdcaeaaProg.lean LOADS. Nothing in Lean hashes anything: it is a label: what it is worth is what the hold of that sum in a sandbox is worth. -/
noncomputable def Try.pinned : Pinned := { name := "ytceaanampdcaeaa", sum := "0507b5ec04ccdb796fa993a2c403a0b6bce59c78a8a8058ce95acbb6784c5e58", checked := Try.checked }
namespace Rows
def none {H : Type} : Left H := { results := [], args := [] }

/-- 'laws.FnExactCommandOK': WHATEVER THE INPUT: true; the input reads as it did. -/
def fnExactCommandOKSpec : ChangeSpec := { name := "fnExactCommandOK", fn := fun _ => fun
  | [d] => { results := [.lit (.bool true)], args := [d] }
  | _ => none }
def fnExactCommandOKRow : OpenClaim := { program := "ytceaanampdcaeaa", sum := "0507b5ec04ccdb796fa993a2c403a0b6bce59c78a8a8058ce95acbb6784c5e58", func := "loop.example/g00308/laws.FnExactCommandOK", spec := "fnExactCommandOK", apart := false }
def FnExactCommandOKSaid : Prop := fnExactCommandOKRow.holds Try.pinned (OpenSpec.ofChange fnExactCommandOKSpec)

/-- ITS FALSE NEIGHBOUR: 'it returns false'. Refute it at one input. -/
def fnExactCommandOKWrong : ChangeSpec := { name := "fnExactCommandOK", fn := fun _ => fun
  | [d] => { results := [.lit (.bool false)], args := [d] }
  | _ => none }
def FnExactCommandOKWrongFalsely : Prop := fnExactCommandOKRow.holds Try.pinned (OpenSpec.ofChange fnExactCommandOKWrong)

/-- 'laws.FnExactCommandBytes': WHATEVER THE INPUT: true; the input reads as it did. -/
def fnExactCommandBytesSpec : ChangeSpec := { name := "fnExactCommandBytes", fn := fun _ => fun
  | [d] => { results := [.lit (.bool true)], args := [d] }
  | _ => none }
def fnExactCommandBytesRow : OpenClaim := { program := "ytceaanampdcaeaa", sum := "0507b5ec04ccdb796fa993a2c403a0b6bce59c78a8a8058ce95acbb6784c5e58", func := "loop.example/g00308/laws.FnExactCommandBytes", spec := "fnExactCommandBytes", inPlace := ["internal/abi.NoEscape"], unfollowed := true, recurses := true, apart := false }
def FnExactCommandBytesSaid : Prop := fnExactCommandBytesRow.holds Try.pinned (OpenSpec.ofChange fnExactCommandBytesSpec)

/-- ITS FALSE NEIGHBOUR: 'it returns false'. Refute it at one input. -/
def fnExactCommandBytesWrong : ChangeSpec := { name := "fnExactCommandBytes", fn := fun _ => fun
  | [d] => { results := [.lit (.bool false)], args := [d] }
  | _ => none }
def FnExactCommandBytesWrongFalsely : Prop := fnExactCommandBytesRow.holds Try.pinned (OpenSpec.ofChange fnExactCommandBytesWrong)

/-- 'laws.FnExactReadCommand': WHATEVER THE INPUT: true; the input reads as it did. -/
def fnExactReadCommandSpec : ChangeSpec := { name := "fnExactReadCommand", fn := fun _ => fun
  | [d] => { results := [.lit (.bool true)], args := [d] }
  | _ => none }
def fnExactReadCommandRow : OpenClaim := { program := "ytceaanampdcaeaa", sum := "0507b5ec04ccdb796fa993a2c403a0b6bce59c78a8a8058ce95acbb6784c5e58", func := "loop.example/g00308/laws.FnExactReadCommand", spec := "fnExactReadCommand", inPlace := ["internal/abi.NoEscape"], unfollowed := true, recurses := true, apart := false }
def FnExactReadCommandSaid : Prop := fnExactReadCommandRow.holds Try.pinned (OpenSpec.ofChange fnExactReadCommandSpec)

/-- ITS FALSE NEIGHBOUR: 'it returns false'. Refute it at one input. -/
def fnExactReadCommandWrong : ChangeSpec := { name := "fnExactReadCommand", fn := fun _ => fun
  | [d] => { results := [.lit (.bool false)], args := [d] }
  | _ => none }
def FnExactReadCommandWrongFalsely : Prop := fnExactReadCommandRow.holds Try.pinned (OpenSpec.ofChange fnExactReadCommandWrong)

/-- 'laws.FnExactReadFrames': WHATEVER THE INPUT: true; the input reads as it did. -/
def fnExactReadFramesSpec : ChangeSpec := { name := "fnExactReadFrames", fn := fun _ => fun
  | [d] => { results := [.lit (.bool true)], args := [d] }
  | _ => none }
def fnExactReadFramesRow : OpenClaim := { program := "ytceaanampdcaeaa", sum := "0507b5ec04ccdb796fa993a2c403a0b6bce59c78a8a8058ce95acbb6784c5e58", func := "loop.example/g00308/laws.FnExactReadFrames", spec := "fnExactReadFrames", unfollowed := true, recurses := true, apart := false }
def FnExactReadFramesSaid : Prop := fnExactReadFramesRow.holds Try.pinned (OpenSpec.ofChange fnExactReadFramesSpec)

/-- ITS FALSE NEIGHBOUR: 'it returns false'. Refute it at one input. -/
def fnExactReadFramesWrong : ChangeSpec := { name := "fnExactReadFrames", fn := fun _ => fun
  | [d] => { results := [.lit (.bool false)], args := [d] }
  | _ => none }
def FnExactReadFramesWrongFalsely : Prop := fnExactReadFramesRow.holds Try.pinned (OpenSpec.ofChange fnExactReadFramesWrong)

/- THE SECOND FORM. 'bulk': how many values and letters a reading holds, each counted each time it is reached (what is shared counts as often as it is met; a slice's spare places count too). A statement '..UptoSaid' is the law's where the arguments, and the package variables that the reading takes, are together of bulk at most 1048576: NARROWER than '..Said'. Prove '..Said' where nothing that the law and all that it calls make is longer than what came in: it says more and counts as full. Else prove '..UptoSaid'. A law counts once. -/
mutual
def uptoBulk {H : Type} : DataW H → Nat
  | .lit (.string bytes) => bytes.length + 1
  | .lit _ => 1
  | .nil => 1
  | .ptr d => uptoBulk d + 1
  | .slice elems spare => uptoBulkAll elems + uptoBulkAll spare + 1
  | .agg parts => uptoBulkAll parts + 1
  | .iface _ d => uptoBulk d + 1
  | .map entries => uptoBulkEntries entries + 1
  | .held _ => 1
def uptoBulkAll {H : Type} : List (DataW H) → Nat
  | [] => 0
  | d :: r => uptoBulk d + uptoBulkAll r
def uptoBulkEntries {H : Type} : List (Lit × DataW H) → Nat
  | [] => 0
  | x :: r => uptoBulkEntry x + uptoBulkEntries r
def uptoBulkEntry {H : Type} : Lit × DataW H → Nat
  | (.string bytes, d) => bytes.length + uptoBulk d + 1
  | (_, d) => uptoBulk d + 1
 end
def uptoSmall : (H : Type) → List (DataW H) → Bool := fun _ ds => decide (uptoBulkAll ds ≤ 1048576)
def OpenSpec.upto (s : _root_.Go.ChangeSpec) : _root_.Go.OpenSpec := { _root_.Go.OpenSpec.ofChange s with cond := some uptoSmall }

/-- 'laws.FnExactCommandOK', WHERE WHAT IT READS IS OF BULK AT MOST 1048576: true; the input reads as it did. -/
def fnExactCommandOKUptoRow : OpenClaim := { program := "ytceaanampdcaeaa", sum := "0507b5ec04ccdb796fa993a2c403a0b6bce59c78a8a8058ce95acbb6784c5e58", func := "loop.example/g00308/laws.FnExactCommandOK", spec := "fnExactCommandOK", apart := false, narrowed := true }
def FnExactCommandOKUptoSaid : Prop := fnExactCommandOKUptoRow.holds Try.pinned (OpenSpec.upto fnExactCommandOKSpec)

/-- 'laws.FnExactCommandBytes', WHERE WHAT IT READS IS OF BULK AT MOST 1048576: true; the input reads as it did. -/
def fnExactCommandBytesUptoRow : OpenClaim := { program := "ytceaanampdcaeaa", sum := "0507b5ec04ccdb796fa993a2c403a0b6bce59c78a8a8058ce95acbb6784c5e58", func := "loop.example/g00308/laws.FnExactCommandBytes", spec := "fnExactCommandBytes", inPlace := ["internal/abi.NoEscape"], unfollowed := true, recurses := true, apart := false, narrowed := true }
def FnExactCommandBytesUptoSaid : Prop := fnExactCommandBytesUptoRow.holds Try.pinned (OpenSpec.upto fnExactCommandBytesSpec)

/-- 'laws.FnExactReadCommand', WHERE WHAT IT READS IS OF BULK AT MOST 1048576: true; the input reads as it did. -/
def fnExactReadCommandUptoRow : OpenClaim := { program := "ytceaanampdcaeaa", sum := "0507b5ec04ccdb796fa993a2c403a0b6bce59c78a8a8058ce95acbb6784c5e58", func := "loop.example/g00308/laws.FnExactReadCommand", spec := "fnExactReadCommand", inPlace := ["internal/abi.NoEscape"], unfollowed := true, recurses := true, apart := false, narrowed := true }
def FnExactReadCommandUptoSaid : Prop := fnExactReadCommandUptoRow.holds Try.pinned (OpenSpec.upto fnExactReadCommandSpec)

/-- 'laws.FnExactReadFrames', WHERE WHAT IT READS IS OF BULK AT MOST 1048576: true; the input reads as it did. -/
def fnExactReadFramesUptoRow : OpenClaim := { program := "ytceaanampdcaeaa", sum := "0507b5ec04ccdb796fa993a2c403a0b6bce59c78a8a8058ce95acbb6784c5e58", func := "loop.example/g00308/laws.FnExactReadFrames", spec := "fnExactReadFrames", unfollowed := true, recurses := true, apart := false, narrowed := true }
def FnExactReadFramesUptoSaid : Prop := fnExactReadFramesUptoRow.holds Try.pinned (OpenSpec.upto fnExactReadFramesSpec)

end Rows
end Go.Proofs.Ytceaanampdcaeaa
