/-
  Contracts of the laws' helpers at layouts: size, copy, comparison. Conditions: bounds on lengths.
-/
import Derived.Test.YtaacccooidehlaaDoorPartS
namespace Go.Proofs.YtaacccooidehlaaDoor
open Go.ChangeShapes Go.WideShapes Go.ChangeAt Go.RowKit
set_option linter.unusedVariables false
set_option linter.unusedSimpArgs false
set_option maxRecDepth 100000

theorem Mine.set_oth {B : Nat} {w : World} {a : Option Addr} {xs : List Value} (h : Mine B w a xs) {p : Addr} (hp : p.block < B) (v : Value) : Mine B (w.setCell p v) a xs := by
  rcases h with h | ⟨b, off, e, hB, h⟩
  · exact .inl h
  · refine .inr ⟨b, off, e, hB, fun i hi => ?_⟩
    have hne : p ≠ ⟨b, off + i, none⟩ := by intro h2; subst h2; exact absurd hp (Nat.not_lt.2 hB)
    rw [World.cell?_setCell_other _ _ _ _ hne, World.frozen?_setCell]
    exact h i hi
end Go.Proofs.YtaacccooidehlaaDoor
