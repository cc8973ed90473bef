/-
  Contracts of the helpers of the laws' package at layouts' parts. Conditions: bounds on lengths.
-/
import Derived.Test.YtaacccooidehlaaDoorLayPart
import Derived.Test.YtaacccooidehlaaDoorSlices
import Derived.StillTailTactics
namespace Go.Proofs.YtaacccooidehlaaDoor
open Go.ChangeShapes Go.WideShapes Go.ChangeAt Go.RowKit
set_option linter.unusedVariables false
set_option linter.unusedSimpArgs false
set_option maxRecDepth 100000

theorem Tryd.info_part : (Tryd.prog.info? 54).map (fun i => (i.zero, i.size, i.bytes)) = some (some (Value.agg #[Value.int .i64 0, Value.bool false, Value.int .i64 0, Value.int .i64 0, Value.int .i64 0]), 5, 40) := by kernel_rfl
theorem partsV_set : ∀ (l : List PartV) (k : Nat) (h : k < l.length) (p : PartV), ((((((partsV l).set (k * 5) (.int .i64 p.pane)).set (k * 5 + 1) (.bool p.rows)).set (k * 5 + 2) (.int .i64 p.size)).set (k * 5 + 3) (.int .i64 p.left)).set (k * 5 + 4) (.int .i64 p.right)) = partsV (l.set k p)
  | a :: l, 0, h, p => rfl
  | a :: l, k + 1, h, p => by
    have e : partsV (a :: l) = .int .i64 a.pane :: .bool a.rows :: .int .i64 a.size :: .int .i64 a.left :: .int .i64 a.right :: partsV l := rfl
    have e0 : (k + 1) * 5 = (k * 5) + 1 + 1 + 1 + 1 + 1 := by omega
    have e1 : (k + 1) * 5 + 1 = (k * 5 + 1) + 1 + 1 + 1 + 1 + 1 := by omega
    have e2 : (k + 1) * 5 + 2 = (k * 5 + 2) + 1 + 1 + 1 + 1 + 1 := by omega
    have e3 : (k + 1) * 5 + 3 = (k * 5 + 3) + 1 + 1 + 1 + 1 + 1 := by omega
    have e4 : (k + 1) * 5 + 4 = (k * 5 + 4) + 1 + 1 + 1 + 1 + 1 := by omega
    rw [e, e4, e3, e2, e1, e0]
    simp only [List.set_cons_succ]
    rw [partsV_set l k (by simpa using h) p]
    rfl
theorem made_parts (n : Nat) : (madeCells #[Value.int .i64 0, Value.bool false, Value.int .i64 0, Value.int .i64 0, Value.int .i64 0] (n * 5)).toList = partsV (List.replicate n (⟨0, false, 0, 0, 0⟩ : PartV)) := by
  apply List.ext_getElem
  · rw [length_partsV]; simp [madeCells]
  intro i h1 h2
  have hi : i < n * 5 := by rw [length_partsV] at h2; simpa using h2
  have hg := partsV_get (List.replicate n (⟨0, false, 0, 0, 0⟩ : PartV)) (i / 5) (⟨0, false, 0, 0, 0⟩ : PartV) (by rw [List.getElem?_replicate, if_pos (by omega)]) (i % 5) (by omega)
  rw [show i / 5 * 5 + i % 5 = i from by omega, List.getElem?_eq_getElem h2] at hg
  simp only [madeCells, Array.toList_map, List.getElem_map, Array.getElem_toList, Array.getElem_range]
  have : i % 5 = 0 ∨ i % 5 = 1 ∨ i % 5 = 2 ∨ i % 5 = 3 ∨ i % 5 = 4 := by omega
  rcases this with h | h | h | h | h <;> (rw [h] at hg; show #[Value.int .i64 0, Value.bool false, Value.int .i64 0, Value.int .i64 0, Value.int .i64 0][i % 5]! = _; rw [h]; exact (Option.some.inj hg).symm)

end Go.Proofs.YtaacccooidehlaaDoor
