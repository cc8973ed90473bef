/-
  Contracts of toScreen, szScreen and eqScreen of the laws. Conditions: bounds on lengths.
-/
import Derived.Test.YtfpbboldfilhlaaDoorCells
import Derived.Test.YtfpbboldfilhlaaDoorFields
namespace Go.Proofs.YtfpbboldfilhlaaDoor
open Go.ChangeShapes Go.WideShapes Go.ChangeAt Go.RowKit
set_option linter.unusedVariables false
set_option linter.unusedSimpArgs false
set_option maxRecDepth 20000

theorem boxes3 (w : World) (o1 o2 o3 : Obj) : (((w.alloc o1).alloc o2).alloc o3).heap[w.heap.size]? = some o1 ∧ (((w.alloc o1).alloc o2).alloc o3).heap[w.heap.size + 1]? = some o2 ∧ (((w.alloc o1).alloc o2).alloc o3).heap[w.heap.size + 2]? = some o3 := by
  have e1 : (w.alloc o1).heap.size = w.heap.size + 1 := by simp
  have e2 : ((w.alloc o1).alloc o2).heap.size = w.heap.size + 2 := by simp
  refine ⟨?_, ?_, ?_⟩
  · exact (Below.heap_alloc _ _ _ (by omega)).trans ((Below.heap_alloc _ _ _ (by omega)).trans (heap_alloc_new w _))
  · rw [← e1]; exact (Below.heap_alloc _ _ _ (by omega)).trans (heap_alloc_new _ _)
  · rw [← e2]; exact heap_alloc_new _ _
theorem Mine.set_other {B : Nat} {w : World} {a : Option Addr} {xs : List Value} (h : Mine B w a xs) {p : Addr} (hp : p.block < B) (v : Value) : Mine B (w.setCell p v) a xs := by
  rcases h with h | ⟨b, off, e, hB, h⟩
  · exact .inl h
  · refine .inr ⟨b, off, e, hB, fun i hi => ?_⟩
    have hne : p ≠ ⟨b, off + i, none⟩ := by intro h2; subst h2; exact absurd hp (Nat.not_lt.2 hB)
    rw [World.cell?_setCell_other _ _ _ _ hne, World.frozen?_setCell]
    exact h i hi

/-- two slices that lie in two blocks (or one of them is empty) -/
def Apart (a : Option Addr) (xs : List Value) (b : Option Addr) (ys : List Value) : Prop := xs = [] ∨ ys = [] ∨ blk a ≠ blk b
theorem apart_of {w w' : World} {D : Nat} {a b : Option Addr} {xs ys : List Value} (h1 : At w a xs) (h2 : Mine D w' b ys) (hD : w.heap.size ≤ D) : Apart a xs b ys := by
  rcases h1 with h1 | ⟨p, o, rfl, h1⟩
  · exact .inl h1
  rcases h2 with h2 | ⟨q, u, rfl, hq, h2⟩
  · exact .inr (.inl h2)
  cases xs with
  | nil => exact .inl rfl
  | cons x xs =>
    have hlt : p < w.heap.size := World.block_lt_of_cell? w _ (h1 0 (by simp))
    exact .inr (.inr (by simp [blk]; omega))

end Go.Proofs.YtfpbboldfilhlaaDoor
