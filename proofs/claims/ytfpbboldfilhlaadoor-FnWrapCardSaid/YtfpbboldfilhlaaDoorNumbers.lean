/-
  Contracts of the given program's NumbersBytes and of its reference, and of what they call. Conditions: bounds on what is handed in.
-/
import Derived.Test.YtfpbboldfilhlaaDoorBig
import Derived.Test.YtfpbboldfilhlaaDoorIn
import Derived.Test.YtfpbboldfilhlaaDoorLong
import Derived.Test.YtfpbboldfilhlaaDoorBuilder
import Derived.Test.YtfpbboldfilhlaaDoorShelf
namespace Go.Proofs.YtfpbboldfilhlaaDoor
open Go.ChangeShapes Go.WideShapes Go.ChangeAt Go.RowKit
set_option linter.unusedVariables false
set_option maxRecDepth 20000

/-- a number that has an encoding in three bytes -/
def okNum (n : Int) : Bool := decide (-1 ≤ n) && decide (n ≤ 16777214)
def numsB (zs : List Int) : List UInt8 := zs.flatMap fun n => bigL (n + 1).toNat 3
theorem length_numsB (zs : List Int) : (numsB zs).length = 3 * zs.length := by
  induction zs with
  | nil => rfl
  | cons a l ih => simp only [numsB, List.flatMap_cons, List.length_append, length_bigL, List.length_cons] at ih ⊢; omega
theorem numsB_snoc (zs : List Int) (n : Int) : numsB (zs ++ [n]) = numsB zs ++ bigL (n + 1).toNat 3 := by simp [numsB]

def numbersR (zs : List Int) : List UInt8 × Int := if 4096 < zs.length then ([], 2) else if zs.all okNum = true then (numsB zs, 0) else ([], 4)

theorem strCells_u8s (l : List UInt8) : Lib.strCells ⟨l.toArray⟩ = u8s l := by simp [Lib.strCells, u8s]

theorem numbersR_le (zs : List Int) : (numbersR zs).1.length ≤ 1048576 := by
  unfold numbersR
  split
  · simp
  · split
    · simp [length_numsB]; omega
    · simp

end Go.Proofs.YtfpbboldfilhlaaDoor
