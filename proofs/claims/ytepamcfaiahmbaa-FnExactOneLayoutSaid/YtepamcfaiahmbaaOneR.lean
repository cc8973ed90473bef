/-
  Contracts of OneLayout of the reference and of the given program, in one form. No condition.
-/
import Derived.Test.YtepamcfaiahmbaaLayOne
import Derived.Test.YtepamcfaiahmbaaLayOf
namespace Go.Proofs.Ytepamcfaiahmbaa
open Go.ChangeShapes Go.WideShapes Go.ChangeAt Go.RowKit
set_option linter.unusedVariables false
set_option linter.unusedSimpArgs false
set_option maxRecDepth 100000
/-- what OneLayout answers -/
def OneR (p : Int) (rl : List PartV) (cd : Int) : Prop := (1 ≤ p ∧ p ≤ 1000 ∧ rl = [⟨p, false, 0, -1, -1⟩] ∧ cd = 0) ∨ (¬ (1 ≤ p ∧ p ≤ 1000) ∧ rl = [] ∧ cd = 4)
theorem oneR_total (p : Int) : ∃ rl cd, OneR p rl cd ∧ rl.length ≤ 1 := by
  by_cases h : 1 ≤ p ∧ p ≤ 1000
  · exact ⟨_, _, .inl ⟨h.1, h.2, rfl, rfl⟩, by simp⟩
  · exact ⟨_, _, .inr ⟨h, rfl, rfl⟩, by simp⟩
theorem specOneR_any (p : Int) (n : Nat) (rl : List PartV) (cd : Int) (w : World) (hR : OneR p rl cd) (hrl : rl.length = n) :
    Calls Try.prog 12 #[.int .i64 p] w fun e w' => ∃ ao cap, e = .returned (.tuple #[.agg #[.slice ao n cap], .int .i64 cd]) ∧ n ≤ cap ∧ Mine w.heap.size w' ao (partsV rl) ∧ Below w.heap.size w w' := by
  refine (specOne_any p w).mono ?_
  rintro e w' ⟨⟨h1, h2, ao, rfl, hm⟩ | ⟨h, rfl⟩, hb⟩
  · rcases hR with ⟨_, _, rfl, rfl⟩ | ⟨h, _⟩
    · subst hrl; exact ⟨ao, 1, rfl, Nat.le_refl _, hm, hb⟩
    · exact absurd ⟨h1, h2⟩ h
  · rcases hR with ⟨h1, h2, _⟩ | ⟨_, rfl, rfl⟩
    · exact absurd ⟨h1, h2⟩ h
    · subst hrl; exact ⟨none, 0, rfl, Nat.le_refl _, .inl rfl, hb⟩
theorem implOneR_any (p : Int) (n : Nat) (rl : List PartV) (cd : Int) (w : World) (hR : OneR p rl cd) (hrl : rl.length = n) :
    Calls Try.prog 13 #[.int .i64 p] w fun e w' => ∃ ao cap, e = .returned (.tuple #[.agg #[.slice ao n cap], .int .i64 cd]) ∧ n ≤ cap ∧ Mine w.heap.size w' ao (partsV rl) ∧ Below w.heap.size w w' := by
  have HB : Hid (Below w.heap.size w (w.alloc (.cells #[.slice none 0 0] 24))) := (Below.refl _ _).alloc (Nat.le_refl _) _
  have x1 := box_cells (box_new w (.cells #[.slice none 0 0] 24)) 0
  have f1 := box_free (box_new w (.cells #[.slice none 0 0] 24)) 0
  simp only [List.getElem?_toArray, List.getElem?_cons_zero] at x1
  rcases hR with ⟨h1, h2, rfl, rfl⟩ | ⟨h, rfl, rfl⟩
  · have HC : Hid (∀ W : World, Calls Try.prog 39 #[.int .i64 p] W fun e w' => e = .returned (.bool true) ∧ W = w') := fun W => by
      have h := isPaneId_any p W
      rw [show (decide ((1 : Int) ≤ p) && decide (p ≤ 1000)) = true from by simp [h1, h2]] at h
      exact h
    subst hrl
    have HA : Hid (Below w.heap.size w ((w.alloc (.cells #[.slice none 0 0] 24)).alloc (.cells (areaLf p) 60))) := HB.out.alloc (by simp) _
    have HT : Hid (TreI ((w.alloc (.cells #[.slice none 0 0] 24)).alloc (.cells (areaLf p) 60)) (.lf (w.heap.size + 1)) (.leaf p)) := by
      have := heap_alloc_new (w.alloc (.cells #[.slice none 0 0] 24)) (.cells (areaLf p) 60)
      rw [World.size_alloc] at this
      exact this
    have HL := Lib.hid (layoutOf_any (.leaf p) _ _ HT.out (show p ≠ 0 by omega) (by simp [Tr.len]))
    have HX : Hid (((w.alloc (.cells #[.slice none 0 0] 24)).alloc (.cells (areaLf p) 60)).heap[w.heap.size]? = some (.cells #[.slice none 0 0] 24 (0, 0))) := by
      show _ = _
      rw [Below.heap_alloc _ _ _ (by simp)]; exact heap_alloc_new w _
    have hz : ((w.alloc (.cells #[.slice none 0 0] 24)).alloc (.cells (areaLf p) 60)).heap.size = w.heap.size + 2 := by simp
    have HZ := Lib.hid hz
    clear hz
    unfold areaLf at HL HA HX HZ
    clear HT
    go_enter Try.func13, Try.ntmps13
    go_wp2_with (go_at_call 39; refine (HC.out _).mono ?_; rintro e w' ⟨rfl, rfl⟩)
    refine HL.out.mono ?_
    rintro e w1 ⟨ao, cap, rfl, hc, hm, hb1⟩
    rw [HZ.out] at hm
    have HB1 : Hid (Below w.heap.size w w1) := HA.out.trans (hb1.mono HA.out.size)
    have HM := Lib.hid hm
    have HCP := Lib.hid hc
    have X1 := (hb1.block w.heap.size (by rw [HZ.out]; omega)).trans HX.out
    have y1 := box_cells X1 0
    have g1 := box_free X1 0
    simp only [List.getElem?_toArray, List.getElem?_cons_zero] at y1
    clear hm hb1 X1 hc x1 f1 HX HZ HA
    go_wp2
    refine bodyPost_ret (v := .tuple #[.agg #[.slice ao 1 cap], .int .i64 0]) (by simp [results, Try.results13, y1, Tr.len, go_sem]) rfl ⟨ao, cap, rfl, HCP.out, ?_, ?_⟩
    · exact (HM.out.set_oth (by dsimp only; omega) _).mono (by omega)
    · exact HB1.out.setCell (by dsimp only; omega) _
  · have HC : Hid (∀ W : World, Calls Try.prog 39 #[.int .i64 p] W fun e w' => e = .returned (.bool false) ∧ W = w') := fun W => by
      have h0 := isPaneId_any p W
      rw [show (decide ((1 : Int) ≤ p) && decide (p ≤ 1000)) = false from by rw [Bool.eq_false_iff]; simp; omega] at h0
      exact h0
    subst hrl
    clear h
    go_enter Try.func13, Try.ntmps13
    go_wp2_with (go_at_call 39; refine (HC.out _).mono ?_; rintro e w' ⟨rfl, rfl⟩)
    refine bodyPost_ret (v := .tuple #[.agg #[.slice none 0 0], .int .i64 4]) (by simp [results, Try.results13, x1, go_sem]) rfl ⟨none, 0, rfl, Nat.le_refl _, .inl rfl, ?_⟩
    first
      | exact HB.out
      | exact HB.out.setCell (by dsimp only; omega) _
end Go.Proofs.Ytepamcfaiahmbaa
