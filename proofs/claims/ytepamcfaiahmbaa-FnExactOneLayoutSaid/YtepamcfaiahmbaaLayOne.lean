/-
  Contracts of the reference's l05One and OneLayout: a layout of one pane. No condition.
-/
import Derived.Test.YtepamcfaiahmbaaLayMark
namespace Go.Proofs.Ytepamcfaiahmbaa
open Go.ChangeShapes Go.WideShapes Go.ChangeAt Go.RowKit
set_option linter.unusedVariables false
set_option linter.unusedSimpArgs false
set_option maxRecDepth 100000

theorem l05One_any (p : Int) (w : World) :
    Calls Try.prog 38 #[.int .i64 p] w fun e w' => ∃ ao, e = .returned (.agg #[.slice ao 1 1]) ∧ Mine w.heap.size w' ao (partsV [⟨p, false, 0, -1, -1⟩]) ∧ Below w.heap.size w w' := by
  go_enter Try.func38, Try.ntmps38
  go_wp2
  have hn := heap_alloc_new (w.alloc (.cells #[.slice (some ⟨w.heap.size + 1, 0, none⟩) 1 1] 24)) (.cells #[.int .i64 p, .bool false, .int .i64 0, .int .i64 (-1), .int .i64 (-1)] 81)
  rw [World.size_alloc] at hn
  have x := box_cells hn
  have f := box_free hn
  have hb : Below w.heap.size w ((w.alloc (.cells #[.slice (some ⟨w.heap.size + 1, 0, none⟩) 1 1] 24)).alloc (.cells #[.int .i64 p, .bool false, .int .i64 0, .int .i64 (-1), .int .i64 (-1)] 81)) := ((Below.refl _ _).alloc (Nat.le_refl _) _).alloc (by simp) _
  refine bodyPost_ret (v := .agg #[.slice (some ⟨w.heap.size + 1, 0, none⟩) 1 1]) (by simp [results, Try.results38, go_sem]) rfl ⟨_, rfl, .inr ⟨_, _, rfl, by omega, fun i hi => ⟨?_, ?_⟩⟩, hb⟩
  · rw [Nat.zero_add, x i]
    have hi' : i < 5 := hi
    rw [show (#[Value.int .i64 p, .bool false, .int .i64 0, .int .i64 (-1), .int .i64 (-1)] : Array Value)[i]? = (partsV [⟨p, false, 0, -1, -1⟩])[i]? from by simp [partsV, partC], List.getElem?_eq_getElem hi]
  · rw [Nat.zero_add]; exact f i
theorem specOne_any (p : Int) (w : World) :
    Calls Try.prog 12 #[.int .i64 p] w fun e w' => ((1 ≤ p ∧ p ≤ 1000 ∧ ∃ ao, e = .returned (.tuple #[.agg #[.slice ao 1 1], .int .i64 0]) ∧ Mine w.heap.size w' ao (partsV [⟨p, false, 0, -1, -1⟩])) ∨ (¬ (1 ≤ p ∧ p ≤ 1000) ∧ e = .returned (.tuple #[.agg #[.slice none 0 0], .int .i64 4]))) ∧ Below w.heap.size w w' := by
  have HB : Hid (Below w.heap.size w (w.alloc (.cells #[.slice none 0 0] 24))) := (Below.refl _ _).alloc (Nat.le_refl _) _
  by_cases hp : 1 ≤ p ∧ p ≤ 1000
  · have HC : Hid (∀ W : World, Calls Try.prog 37 #[.int .i64 p, .int .i64 1, .int .i64 1000] W fun e w' => e = .returned (.bool true) ∧ W = w') := fun W => by
      have h := l01In_any p 1 1000 W
      rw [show (decide ((1 : Int) ≤ p) && decide (p ≤ 1000)) = true from by simp [hp.1, hp.2]] at h
      exact h
    have HP := Lib.hid hp
    clear hp
    go_enter Try.func12, Try.ntmps12
    go_wp2_with (go_at_call 37; refine (HC.out _).mono ?_; rintro e w' ⟨rfl, rfl⟩)
    refine (l05One_any p _).mono ?_
    rintro e w1 ⟨ao, rfl, hm, hb1⟩
    have hz1 : w.heap.size + 1 ≤ w1.heap.size := by have := hb1.size; simpa using this
    have HB1 : Hid (Below w.heap.size w w1) := HB.out.trans (hb1.mono (by simp))
    have HM : Hid (Mine (w.heap.size + 1) w1 ao (partsV [⟨p, false, 0, -1, -1⟩])) := by have := hm; rw [World.size_alloc] at this; exact this
    have X1 := box_below (box_new w (.cells #[.slice none 0 0] 24)) hb1 (by simp)
    have x1 := box_cells X1 0
    have f1 := box_free X1 0
    simp at x1
    clear hm hb1 X1
    go_wp2
    refine bodyPost_ret (v := .tuple #[.agg #[.slice ao 1 1], .int .i64 0]) (by simp [results, Try.results12, x1, go_sem]) rfl ⟨.inl ⟨HP.out.1, HP.out.2, ao, rfl, ?_⟩, ?_⟩
    · exact (HM.out.set_oth (by dsimp only; omega) _).mono (by omega)
    · exact HB1.out.setCell (by dsimp only; omega) _
  · have HC : Hid (∀ W : World, Calls Try.prog 37 #[.int .i64 p, .int .i64 1, .int .i64 1000] W fun e w' => e = .returned (.bool false) ∧ W = w') := fun W => by
      have h := l01In_any p 1 1000 W
      rw [show (decide ((1 : Int) ≤ p) && decide (p ≤ 1000)) = false from by rw [Bool.eq_false_iff]; simp; omega] at h
      exact h
    have HP := Lib.hid hp
    have x1 := box_cells (box_new w (.cells #[.slice none 0 0] 24)) 0
    have f1 := box_free (box_new w (.cells #[.slice none 0 0] 24)) 0
    simp at x1
    clear hp
    go_enter Try.func12, Try.ntmps12
    go_wp2_with (go_at_call 37; refine (HC.out _).mono ?_; rintro e w' ⟨rfl, rfl⟩)
    refine bodyPost_ret (v := .tuple #[.agg #[.slice none 0 0], .int .i64 4]) (by simp [results, Try.results12, x1, go_sem]) rfl ⟨.inr ⟨HP.out, rfl⟩, ?_⟩
    first
      | exact HB.out
      | exact HB.out.setCell (by dsimp only; omega) _
end Go.Proofs.Ytepamcfaiahmbaa
