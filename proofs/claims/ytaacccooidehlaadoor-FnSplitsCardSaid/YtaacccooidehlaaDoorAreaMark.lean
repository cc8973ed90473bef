/-
  Contracts of the helpers of the laws' package that mark and look at layouts' areas. Conditions: bounds on lengths.
-/
import Derived.Test.YtaacccooidehlaaDoorLayTo
import Derived.Test.YtaacccooidehlaaDoorLayTree
namespace Go.Proofs.YtaacccooidehlaaDoor
open Go.ChangeShapes Go.WideShapes Go.ChangeAt Go.RowKit
set_option linter.unusedVariables false
set_option linter.unusedSimpArgs false
set_option maxRecDepth 100000

def markA (k0 j : Nat) : AreaV := ⟨((k0 + 5 * j : Nat) : Int), ((k0 + 5 * j + 1 : Nat) : Int), ((k0 + 5 * j + 2 : Nat) : Int), ((k0 + 5 * j + 3 : Nat) : Int), ((k0 + 5 * j + 4 : Nat) : Int)⟩
def marksArea (k0 n : Nat) : List AreaV := (List.range n).map (markA k0)
theorem length_marksArea (k0 n : Nat) : (marksArea k0 n).length = n := by simp [marksArea]
theorem marksArea_snoc (k0 j : Nat) : marksArea k0 (j + 1) = marksArea k0 j ++ [markA k0 j] := by simp [marksArea, List.range_succ]
theorem marksA_set (k0 j : Nat) (l : List AreaV) (h : j < l.length) :
    (marksArea k0 j ++ l.drop j).set j (markA k0 j) = marksArea k0 (j + 1) ++ l.drop (j + 1) := by
  have hlk : (marksArea k0 j).length = j := length_marksArea _ _
  rw [marksArea_snoc, List.set_append_right _ _ (by omega), hlk, Nat.sub_self, List.drop_eq_getElem_cons h, List.set_cons_zero, List.append_assoc]
  rfl
theorem length_areasV (l : List AreaV) : (areasV l).length = l.length * 5 := by
  induction l with
  | nil => rfl
  | cons a l ih => simp only [areasV, List.flatMap_cons, List.length_append] at ih ⊢; rw [ih]; simp only [areaC, List.length_cons, List.length_nil]; omega
theorem areasV_set : ∀ (l : List AreaV) (k : Nat) (h : k < l.length) (p : AreaV), ((((((areasV l).set (k * 5) (.int .i64 p.pane)).set (k * 5 + 1) (.int .i64 p.x)).set (k * 5 + 2) (.int .i64 p.y)).set (k * 5 + 3) (.int .i64 p.w)).set (k * 5 + 4) (.int .i64 p.h)) = areasV (l.set k p)
  | a :: l, 0, h, p => rfl
  | a :: l, k + 1, h, p => by
    have e : areasV (a :: l) = .int .i64 a.pane :: .int .i64 a.x :: .int .i64 a.y :: .int .i64 a.w :: .int .i64 a.h :: areasV l := rfl
    have e0 : (k + 1) * 5 = (k * 5) + 1 + 1 + 1 + 1 + 1 := by omega
    have e1 : (k + 1) * 5 + 1 = (k * 5 + 1) + 1 + 1 + 1 + 1 + 1 := by omega
    have e2 : (k + 1) * 5 + 2 = (k * 5 + 2) + 1 + 1 + 1 + 1 + 1 := by omega
    have e3 : (k + 1) * 5 + 3 = (k * 5 + 3) + 1 + 1 + 1 + 1 + 1 := by omega
    have e4 : (k + 1) * 5 + 4 = (k * 5 + 4) + 1 + 1 + 1 + 1 + 1 := by omega
    rw [e, e4, e3, e2, e1, e0]
    simp only [List.set_cons_succ]
    rw [areasV_set l k (by simpa using h) p]
    rfl

theorem marksArea_get (k0 n j : Nat) (h : j < n) : (marksArea k0 n)[j]? = some (markA k0 j) := by simp [marksArea, h]
end Go.Proofs.YtaacccooidehlaaDoor
