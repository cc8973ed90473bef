/-
  Contracts of slices.Repeat at cells, of blanks and l04Blank. Conditions: bounds on the number.
-/
import Derived.Test.YtfflmmkkgcijgaaDoorCells
import Derived.Test.YtfflmmkkgcijgaaDoorCopy
import Derived.Test.YtfflmmkkgcijgaaDoorShelf
import Derived.Deep.AppendLies
namespace Go.Proofs.YtfflmmkkgcijgaaDoor
open Go.ChangeShapes Go.WideShapes Go.ChangeAt Go.RowKit
set_option linter.unusedVariables false
set_option linter.unusedSimpArgs false
set_option maxRecDepth 20000

theorem cellsV_one (l : List (Int × Int)) : ∀ v ∈ cellsV l, v.oneCell' = true := by
  intro v hv
  simp only [cellsV, List.mem_flatMap, List.mem_cons, List.not_mem_nil, or_false] at hv
  obtain ⟨c, _, rfl | rfl⟩ := hv <;> rfl
theorem cellsV_take (l : List (Int × Int)) (k : Nat) : (cellsV l).take (k * 2) = cellsV (l.take k) := by
  induction l generalizing k with
  | nil => simp [cellsV]
  | cons a l ih =>
    cases k with
    | zero => simp [cellsV]
    | succ k =>
      have e : cellsV (a :: l) = .int .i64 a.1 :: .int .i64 a.2 :: cellsV l := rfl
      rw [e, show (k + 1) * 2 = k * 2 + 1 + 1 from by omega, List.take_succ_cons, List.take_succ_cons, ih]; rfl
theorem cellsV_drop (l : List (Int × Int)) (k : Nat) : (cellsV l).drop (k * 2) = cellsV (l.drop k) := by
  induction l generalizing k with
  | nil => simp [cellsV]
  | cons a l ih =>
    cases k with
    | zero => simp
    | succ k =>
      have e : cellsV (a :: l) = .int .i64 a.1 :: .int .i64 a.2 :: cellsV l := rfl
      rw [e, show (k + 1) * 2 = k * 2 + 1 + 1 from by omega, List.drop_succ_cons, List.drop_succ_cons, ih]; rfl
/-- the source's cells of a copy, as the law asks for them -/
theorem at_src {w : World} {b off : Nat} {xs : List Value} (h : At w (some ⟨b, off, none⟩) xs) (k n : Nat) : ∀ j v, ((xs.drop k).take n)[j]? = some v → w.cell? ((⟨b, off + k, none⟩ : Addr).add j) = some v := by
  intro j v hj
  have hadd : (⟨b, off + k, none⟩ : Addr).add j = ⟨b, off + k + j, none⟩ := by unfold Addr.add; split <;> simp_all
  rw [hadd]
  obtain ⟨hlt, hv⟩ := List.getElem?_eq_some_iff.1 hj
  rcases h with h | ⟨b', off', e, h⟩
  · subst h; simp at hlt
  · simp only [Option.some.injEq, Addr.mk.injEq, and_true] at e
    obtain ⟨rfl, rfl⟩ := e
    have hkl : k + j < xs.length := by simp at hlt; omega
    have := h (k + j) hkl
    rw [show off + k + j = off + (k + j) from by omega, this]
    simp at hv; rw [hv]
theorem mine_cells {B b off : Nat} {w : World} {xs : List Value} (h : Mine B w (some ⟨b, off, none⟩) xs) : ∀ i (h : i < xs.length), w.cell? ⟨b, off + i, none⟩ = some xs[i] ∧ w.frozen? ⟨b, off + i, none⟩ = false := by
  rcases h with h | ⟨b', off', e, _, h⟩
  · subst h; intro i hi; simp at hi
  · simp only [Option.some.injEq, Addr.mk.injEq, and_true] at e
    obtain ⟨rfl, rfl⟩ := e
    exact h

end Go.Proofs.YtfflmmkkgcijgaaDoor
