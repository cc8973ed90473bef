/-
  Contracts of the reference's l05One and OneLayout: a layout of one pane. No condition.
-/
import Derived.Test.YtaacccooidehlaaDoorLayMark
namespace Go.Proofs.YtaacccooidehlaaDoor
open Go.ChangeShapes Go.WideShapes Go.ChangeAt Go.RowKit
set_option linter.unusedVariables false
set_option linter.unusedSimpArgs false
set_option maxRecDepth 100000

theorem l05One_any (p : Int) (w : World) :
    Calls Tryd.prog 27 #[.int .i64 p] w fun e w' => ∃ ao, e = .returned (.agg #[.slice ao 1 1]) ∧ Mine w.heap.size w' ao (partsV [⟨p, false, 0, -1, -1⟩]) ∧ Below w.heap.size w w' := by
  go_enter Tryd.func27, Tryd.ntmps27
  go_wp2
  have hn := heap_alloc_new (w.alloc (.cells #[.slice (some ⟨w.heap.size + 1, 0, none⟩) 1 1] 26)) (.cells #[.int .i64 p, .bool false, .int .i64 0, .int .i64 (-1), .int .i64 (-1)] 54)
  rw [World.size_alloc] at hn
  have x := box_cells hn
  have f := box_free hn
  have hb : Below w.heap.size w ((w.alloc (.cells #[.slice (some ⟨w.heap.size + 1, 0, none⟩) 1 1] 26)).alloc (.cells #[.int .i64 p, .bool false, .int .i64 0, .int .i64 (-1), .int .i64 (-1)] 54)) := ((Below.refl _ _).alloc (Nat.le_refl _) _).alloc (by simp) _
  refine bodyPost_ret (v := .agg #[.slice (some ⟨w.heap.size + 1, 0, none⟩) 1 1]) (by simp [results, Tryd.results27, go_sem]) rfl ⟨_, rfl, .inr ⟨_, _, rfl, by omega, fun i hi => ⟨?_, ?_⟩⟩, hb⟩
  · rw [Nat.zero_add, x i]
    have hi' : i < 5 := hi
    rw [show (#[Value.int .i64 p, .bool false, .int .i64 0, .int .i64 (-1), .int .i64 (-1)] : Array Value)[i]? = (partsV [⟨p, false, 0, -1, -1⟩])[i]? from by simp [partsV, partC], List.getElem?_eq_getElem hi]
  · rw [Nat.zero_add]; exact f i
end Go.Proofs.YtaacccooidehlaaDoor
