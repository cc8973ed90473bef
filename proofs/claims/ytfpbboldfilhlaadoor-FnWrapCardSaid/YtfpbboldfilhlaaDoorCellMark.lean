/-
  Contracts of the helpers of the laws' package that mark and look at cells, and at screens. Conditions: bounds on lengths.
-/
import Derived.Test.YtfpbboldfilhlaaDoorRepeat
import Derived.Test.YtfpbboldfilhlaaDoorScrTo
namespace Go.Proofs.YtfpbboldfilhlaaDoor
open Go.ChangeShapes Go.WideShapes Go.ChangeAt Go.RowKit
set_option linter.unusedVariables false
set_option linter.unusedSimpArgs false
set_option maxRecDepth 20000

def marksCell (k0 n : Nat) : List (Int × Int) := (List.range n).map fun j => (((k0 + 2 * j : Nat) : Int), ((k0 + 2 * j + 1 : Nat) : Int))
theorem length_marksCell (k0 n : Nat) : (marksCell k0 n).length = n := by simp [marksCell]
theorem marksCell_snoc (k0 j : Nat) : marksCell k0 (j + 1) = marksCell k0 j ++ [(((k0 + 2 * j : Nat) : Int), ((k0 + 2 * j + 1 : Nat) : Int))] := by simp [marksCell, List.range_succ]

theorem marks_set (k0 j : Nat) (l : List (Int × Int)) (h : j < l.length) :
    (marksCell k0 j ++ l.drop j).set j (((k0 + 2 * j : Nat) : Int), ((k0 + 2 * j + 1 : Nat) : Int)) = marksCell k0 (j + 1) ++ l.drop (j + 1) := by
  have hlk : (marksCell k0 j).length = j := length_marksCell _ _
  rw [marksCell_snoc, List.set_append_right _ _ (by omega), hlk, Nat.sub_self, List.drop_eq_getElem_cons h, List.set_cons_zero, List.append_assoc]
  rfl

theorem marksCell_get (k0 n j : Nat) (h : j < n) : (marksCell k0 n)[j]'(by rw [length_marksCell]; exact h) = (((k0 + 2 * j : Nat) : Int), ((k0 + 2 * j + 1 : Nat) : Int)) := by simp [marksCell]
end Go.Proofs.YtfpbboldfilhlaaDoor
