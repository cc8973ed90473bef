/-
  Contracts of markScreen and heldScreen of the laws' package. Conditions: bounds on lengths.
-/
import Derived.Test.YtfpbboldfilhlaaDoorCellMark
namespace Go.Proofs.YtfpbboldfilhlaaDoor
open Go.ChangeShapes Go.WideShapes Go.ChangeAt Go.RowKit
set_option linter.unusedVariables false
set_option linter.unusedSimpArgs false
set_option maxRecDepth 20000

theorem sl_grown {B C : Nat} {w w' : World} {ao : Option Addr} {xs : List Value} {row : Option Nat} (h : Sl B C w ao xs) (hg : w.grownBy w' row) (hne : xs = [] ∨ blk ao ≠ row) : Sl B C w' ao xs := by
  rcases hne with hne | hne
  · exact .inl hne
  rcases h with h | ⟨b, off, rfl, hB, hC, h⟩
  · exact .inl h
  · refine .inr ⟨b, off, rfl, hB, hC, fun i hi => ?_⟩
    have hb := hg.block b (World.block_lt_of_cell? w _ (h i hi).1) (by simpa [blk] using hne)
    rw [World.cell?_of_block (w := w) hb, World.frozen?_of_block (w := w) hb]
    exact h i hi
theorem chg_trans {B C : Nat} {a b c : World} (h : Chg B C a b) (k : Chg B C b c) : Chg B C a c :=
  ⟨h.below.trans k.below, fun j hj hl => (k.above j hj (Nat.lt_of_lt_of_le hl h.below.size)).trans (h.above j hj hl)⟩
theorem apart_len {a b : Option Addr} {xs xs' ys : List Value} (h : Apart a xs b ys) (hl : xs'.length = xs.length) : Apart a xs' b ys := by
  rcases h with h | h | h
  · subst h; exact .inl (List.length_eq_zero_iff.1 hl)
  · exact .inr (.inl h)
  · exact .inr (.inr h)

attribute [local irreducible] wpList
end Go.Proofs.YtfpbboldfilhlaaDoor
