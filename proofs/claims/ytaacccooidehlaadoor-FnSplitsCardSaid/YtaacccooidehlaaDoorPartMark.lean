/-
  Contracts of the helpers of the laws' package that mark and look at layouts' parts. Conditions: bounds on lengths.
-/
import Derived.Test.YtaacccooidehlaaDoorLayTo
namespace Go.Proofs.YtaacccooidehlaaDoor
open Go.ChangeShapes Go.WideShapes Go.ChangeAt Go.RowKit
set_option linter.unusedVariables false
set_option linter.unusedSimpArgs false
set_option maxRecDepth 100000

def markP (k0 j : Nat) : PartV := ⟨((k0 + 5 * j : Nat) : Int), decide ((k0 + 5 * j + 1) % 3 = 0), ((k0 + 5 * j + 2 : Nat) : Int), ((k0 + 5 * j + 3 : Nat) : Int), ((k0 + 5 * j + 4 : Nat) : Int)⟩
def marksPart (k0 n : Nat) : List PartV := (List.range n).map (markP k0)
theorem length_marksPart (k0 n : Nat) : (marksPart k0 n).length = n := by simp [marksPart]
theorem marksPart_snoc (k0 j : Nat) : marksPart k0 (j + 1) = marksPart k0 j ++ [markP k0 j] := by simp [marksPart, List.range_succ]
theorem marksP_set (k0 j : Nat) (l : List PartV) (h : j < l.length) :
    (marksPart k0 j ++ l.drop j).set j (markP k0 j) = marksPart k0 (j + 1) ++ l.drop (j + 1) := by
  have hlk : (marksPart k0 j).length = j := length_marksPart _ _
  rw [marksPart_snoc, List.set_append_right _ _ (by omega), hlk, Nat.sub_self, List.drop_eq_getElem_cons h, List.set_cons_zero, List.append_assoc]
  rfl
theorem mark_mod (x : Nat) : ((x : Int) % 3 == 0) = decide (x % 3 = 0) := by
  rw [Bool.eq_iff_iff]; simp; omega

theorem marksPart_get (k0 n j : Nat) (h : j < n) : (marksPart k0 n)[j]? = some (markP k0 j) := by simp [marksPart, h]
end Go.Proofs.YtaacccooidehlaaDoor
