/-
  The walk of the law FnExactLayoutText of the given program. Condition: the library's table of powers stands in its variable.
-/
import Derived.Test.YtepamcfaiahmbaaDoorTextT
import Derived.Test.YtepamcfaiahmbaaDoorLayTo
import Derived.Test.YtepamcfaiahmbaaDoorAggPart
import Derived.Deep.RegionHeld3
namespace Go.Proofs.YtepamcfaiahmbaaDoor
open Go.ChangeShapes Go.WideShapes Go.ChangeAt Go.RowKit
set_option linter.unusedVariables false
set_option linter.unusedSimpArgs false
set_option maxRecDepth 100000
attribute [local irreducible] wpList
set_option maxHeartbeats 4000000 in
theorem walk_FnExactLayoutText (w : World) (aL : Option Addr) (lenL capL : Nat) (ps : List PartV) (hp : At w aL (partsV ps)) (hl : ps.length = lenL) (hn : lenL ≤ maxLen) (hc : lenL ≤ capL) (a : Int) (_ : (Lit.int .i64 a).wf = true) (b : Int) (_ : (Lit.int .i64 b).wf = true) (hg : Pow w) :
    Calls Tryd.prog 3 #[.agg #[.slice aL lenL capL], .int .i64 a, .int .i64 b] w fun e w' => e = .returned (.bool true) ∧ Below w.heap.size w w' := by
  have HLC := Lib.hid hl
  have HP := Lib.hid hp
  have HG := Lib.hid hg
  obtain ⟨tx, cd, hR⟩ := TextR.ex ps a b
  have HR := Lib.hid hR
  clear hR hl hp hg
  go_enter Tryd.func3, Tryd.ntmps3
  have B0 : Below w.heap.size w (w.alloc (.cells #[.slice aL lenL capL] 24)) := (Below.refl _ _).alloc (Nat.le_refl _) _
  go_wp2_with fail
  refine (szLayout_any aL lenL capL _ hn).mono ?_
  rintro e w1 ⟨r, rfl, hr, hb1⟩
  have hz1 : w.heap.size + 1 ≤ w1.heap.size := by have := hb1.size; simpa using this
  have B1 : Below w.heap.size w w1 := B0.trans (hb1.mono (by simp))
  have X1 := Lib.hid (box_below (box_new w (.cells #[.slice aL lenL capL] 24)) hb1 (by simp))
  have x1 := box_cells X1.out
  by_cases hneg : r < 0
  · clear hr
    go_wp2
    go_ret
    exact ⟨rfl, B1⟩
  have f1 := hr (by omega)
  clear hr hb1
  go_wp2_with fail
  refine (toLayout_any aL lenL capL ps _ (HP.out.below B1 (Nat.le_refl _)) HLC.out f1).mono ?_
  rintro e w2 ⟨a_t, c_t, rfl, k_t, h_t, hb2⟩
  have hz2 := hb2.size
  have B2 : Below w.heap.size w w2 := B1.trans (hb2.mono (by omega))
  have s_t := Lib.hid (Sl.of h_t)
  have X2 := Lib.hid (box_below X1.out hb2 (by omega))
  have x2 := box_cells X2.out
  clear x1 X1 hb2 h_t
  go_wp2_with fail
  refine (specText_any a_t lenL c_t ps a b tx cd _ s_t.out.at HLC.out k_t (by omega) HR.out).mono ?_
  rintro e w3 ⟨rfl, hb3⟩
  have hz3 := hb3.size
  have B3 : Below w.heap.size w w3 := B2.trans (hb3.mono (by omega))
  have X3 := Lib.hid (box_below X2.out hb3 (by omega))
  have x3 := box_cells X3.out
  clear x2 X2 hb3 s_t
  go_wp2_with fail
  refine (toLayout_any aL lenL capL ps _ (HP.out.below B3 (Nat.le_refl _)) HLC.out f1).mono ?_
  rintro e w4 ⟨a_x, c_x, rfl, k_x, h_x, hb4⟩
  have hz4 := hb4.size
  have B4 : Below w.heap.size w w4 := B3.trans (hb4.mono (by omega))
  have s_x := Sl.of h_x
  have X4 := Lib.hid (box_below X3.out hb4 (by omega))
  have x4 := box_cells X4.out
  clear x3 X3 hb4 h_x
  have B4' : Below w.heap.size w (w4.alloc (.cells #[.slice a_x lenL c_x] 30)) := B4.alloc B4.size _
  have hA4 : Below w4.heap.size w4 (w4.alloc (.cells #[.slice a_x lenL c_x] 30)) := (Below.refl _ _).alloc (Nat.le_refl _) _
  have s_y := s_x.below hA4 (by omega)
  go_wp2_with fail
  refine (implText_any a_x lenL c_x ps a b tx cd _ (HG.out.below B4' (Nat.le_refl _)) s_y.at HLC.out k_x (by omega) HR.out).mono ?_
  rintro e w5 ⟨rfl, hb5⟩
  have hz5 : w4.heap.size + 1 ≤ w5.heap.size := by have := hb5.size; simpa using this
  have B5 : Below w.heap.size w w5 := B4'.trans (hb5.mono (by simp <;> omega))
  have X5 := Lib.hid (box_below ((Below.heap_alloc w4 _ w.heap.size (by omega)).trans X4.out) hb5 (by simp <;> omega))
  have x5 := box_cells X5.out
  have Y5 := Lib.hid (box_below (box_new w4 (.cells #[.slice a_x lenL c_x] 30)) hb5 (by simp))
  have y5 := box_cells Y5.out
  have s_z := s_y.below hb5 (by simp <;> omega)
  clear x4 X4 hb5 hA4 B4' s_x s_y
  generalize hxb : w4.heap.size = xb at *
  clear hxb
  have hxw : w.heap.size < w5.heap.size := by omega
  have hxv : xb < w5.heap.size := by omega
  have s_v : Sl _ _ w5.drew a_x (partsV ps) := s_z
  go_wp2_with fail
  go_region_held3 (fun w' => (∀ i, w'.cell? ⟨w.heap.size, i, none⟩ = (#[.slice aL lenL capL] : Array Value)[i]?) ∧ (∀ i, w'.cell? ⟨xb, i, none⟩ = (#[.slice a_x lenL c_x] : Array Value)[i]?)) (first | with_reducible exact ⟨x7, y7⟩ | with_reducible exact ⟨x6, y6⟩ | exact ⟨x5, y5⟩)
    (first
    | (go_at_call 7; refine (toLayout_any aL lenL capL ps _ (HP.out.below B5.drew (Nat.le_refl _)) HLC.out f1).mono ?_; rintro e w6 ⟨a_u, c_u, rfl, k_u, h_u, hb6⟩; have hz6 : w5.heap.size ≤ w6.heap.size := hb6.size; have B6 : Below w.heap.size w w6 := B5.drew.trans (hb6.mono (by exact B5.size)); have x6 := cells_below (W := w5.drew) x5 hb6 (by exact hxw); have y6 := cells_below (W := w5.drew) y5 hb6 (by exact hxv); have s_q := s_v.below (D := w5.heap.size) hb6 (by omega))
    | (go_at_call 9; refine (eqLayout_same a_x a_u lenL c_x c_u ps _ s_q.at h_u.at HLC.out (by omega)).mono ?_; rintro e w7 ⟨rfl, hb7⟩; have B7 : Below w.heap.size w w7 := B6.trans (hb7.mono (by exact B6.size)); have x7 := cells_below x6 hb7 (by omega); have y7 := cells_below y6 hb7 (by omega))
    | fail)
  rename_i hh
  clear hh
  go_wp2
  go_ret
  exact ⟨rfl, B7⟩
end Go.Proofs.YtepamcfaiahmbaaDoor
