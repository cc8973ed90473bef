/-
  Contracts of the helpers of the laws' package at cells: a cell is two numbers. Conditions: bounds on lengths.
-/
import Derived.Test.YtfpbboldfilhlaaDoorSlices
import Derived.Test.YtfpbboldfilhlaaDoorIn
import Derived.Deep.RegionHeld3
namespace Go.Proofs.YtfpbboldfilhlaaDoor
open Go.ChangeShapes Go.WideShapes Go.ChangeAt Go.RowKit
set_option linter.unusedVariables false
set_option linter.unusedSimpArgs false
set_option maxRecDepth 20000

def cellsV (l : List (Int × Int)) : List Value := l.flatMap fun c => [.int .i64 c.1, .int .i64 c.2]
theorem length_cellsV (l : List (Int × Int)) : (cellsV l).length = 2 * l.length := by
  induction l with
  | nil => rfl
  | cons a l ih =>
    rw [show cellsV (a :: l) = [.int .i64 a.1, .int .i64 a.2] ++ cellsV l from rfl, List.length_append, ih, List.length_cons]
    show 2 + 2 * l.length = 2 * (l.length + 1)
    omega
theorem cellsV_get : ∀ (l : List (Int × Int)) (k : Nat) (h : k < l.length), (cellsV l)[2 * k]? = some (.int .i64 l[k].1) ∧ (cellsV l)[2 * k + 1]? = some (.int .i64 l[k].2)
  | a :: l, 0, h => ⟨rfl, rfl⟩
  | a :: l, k + 1, h => by
    have := cellsV_get l k (by simpa using h)
    have e : cellsV (a :: l) = [.int .i64 a.1, .int .i64 a.2] ++ cellsV l := rfl
    rw [e, show 2 * (k + 1) = 2 * k + 2 from by omega, show 2 * k + 2 + 1 = (2 * k + 1) + 2 from by omega, List.getElem?_append_right (by simp), List.getElem?_append_right (by simp)]
    simpa using this
theorem At.cell2 {w : World} {ao : Option Addr} {l : List (Int × Int)} (h : At w ao (cellsV l)) {k : Nat} (hk : k < l.length) :
    ∃ b off, ao = some ⟨b, off, none⟩ ∧ w.cell? ⟨b, off + k * 2, none⟩ = some (.int .i64 l[k].1) ∧ w.cell? ⟨b, off + k * 2 + 1, none⟩ = some (.int .i64 l[k].2) := by
  have hl := length_cellsV l
  obtain ⟨b, off, e, hc⟩ := h.get (by intro h0; have := congrArg List.length h0; rw [hl] at this; have h2 : 2 * l.length = 0 := this; omega)
  obtain ⟨g1, g2⟩ := cellsV_get l k hk
  refine ⟨b, off, e, ?_, ?_⟩
  · rw [show off + k * 2 = off + 2 * k from by omega, hc (2 * k) (by omega), ← g1, List.getElem?_eq_getElem]
  · rw [show off + k * 2 + 1 = off + (2 * k + 1) from by omega, hc (2 * k + 1) (by omega), ← g2, List.getElem?_eq_getElem]

theorem Tryd.info_cell : (Tryd.prog.info? 57).map (fun i => (i.zero, i.size, i.bytes)) = some (some (Value.agg #[.int .i64 0, .int .i64 0]), 2, 16) := by kernel_rfl
theorem cellsV_append (a b : List (Int × Int)) : cellsV (a ++ b) = cellsV a ++ cellsV b := by simp [cellsV]
theorem cellsV_set : ∀ (l : List (Int × Int)) (k : Nat) (h : k < l.length) (r s : Int), ((cellsV l).set (k * 2) (.int .i64 r)).set (k * 2 + 1) (.int .i64 s) = cellsV (l.set k (r, s))
  | a :: l, 0, h, r, s => rfl
  | a :: l, k + 1, h, r, s => by
    have e : cellsV (a :: l) = .int .i64 a.1 :: .int .i64 a.2 :: cellsV l := rfl
    have e1 : (k + 1) * 2 = (k * 2 + 1) + 1 := by omega
    have e2 : (k + 1) * 2 + 1 = ((k * 2 + 1) + 1) + 1 := by omega
    rw [e, e2, e1]
    simp only [List.set_cons_succ]
    rw [cellsV_set l k (by simpa using h) r s]
    rfl
theorem made_zeros (n : Nat) : (madeCells #[Value.int .i64 0, Value.int .i64 0] (n * 2)).toList = cellsV (List.replicate n (0, 0)) := by
  have h1 : (madeCells #[Value.int .i64 0, Value.int .i64 0] (n * 2)).toList = List.replicate (n * 2) (Value.int .i64 0) := by
    simp only [madeCells, Array.toList_map]
    apply List.ext_getElem (by simp)
    intro i h1 h2
    simp only [List.getElem_map, List.getElem_replicate, Array.getElem_toList, Array.getElem_range]
    have : i % 2 = 0 ∨ i % 2 = 1 := by omega
    rcases this with h | h <;> (show #[Value.int .i64 0, Value.int .i64 0][i % 2]! = _; rw [h]; rfl)
  rw [h1]
  clear h1
  induction n with
  | zero => rfl
  | succ n ih =>
    rw [show (n + 1) * 2 = n * 2 + 1 + 1 from by omega, List.replicate_succ, List.replicate_succ, ih]
    rfl

end Go.Proofs.YtfpbboldfilhlaaDoor
