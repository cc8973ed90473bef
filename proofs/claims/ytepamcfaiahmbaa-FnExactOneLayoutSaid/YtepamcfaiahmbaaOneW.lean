/-
  The walk of the law FnExactOneLayout of the given program. No condition.
-/
import Derived.Test.YtepamcfaiahmbaaOneR
import Derived.Test.YtepamcfaiahmbaaLayMark
import Derived.Test.YtepamcfaiahmbaaLayTo
import Derived.Test.YtepamcfaiahmbaaAggPart
import Derived.Deep.RegionHeld3
namespace Go.Proofs.Ytepamcfaiahmbaa
open Go.ChangeShapes Go.WideShapes Go.ChangeAt Go.RowKit
set_option linter.unusedVariables false
set_option linter.unusedSimpArgs false
attribute [local irreducible] wpList

set_option maxHeartbeats 8000000 in
set_option maxRecDepth 100000 in
theorem walk_FnExactOneLayout (w : World) (pn : Int) (_ : (Lit.int .i64 pn).wf = true) :
    Calls Try.prog 3 #[.int .i64 pn] w fun e w' => e = .returned (.bool true) ∧ Below w.heap.size w w' := by
  obtain ⟨rl, cd, hR, hle⟩ := oneR_total pn
  obtain ⟨n, hrl⟩ : ∃ n, rl.length = n := ⟨_, rfl⟩
  have hle2 : n ≤ 1 := by rw [← hrl]; exact hle
  have HR := Lib.hid hR
  have HRL := Lib.hid hrl
  clear hR hrl hle
  go_enter Try.func3, Try.ntmps3
  have BB : Below w.heap.size w w := Below.refl _ _
  have hc0 := BB.size
  go_wp2_with fail
  refine (specOneR_any pn n rl cd _ HR.out HRL.out).mono ?_
  rintro e w1 ⟨a_w0, c_w0, rfl, k_w0, hM, hb⟩
  have hz1 : w.heap.size ≤ w1.heap.size := hb.size
  replace BB : Below w.heap.size w w1 := BB.trans (hb.mono (by omega))
  clear hb
  clear hc0
  have s_w0 := Sl.of hM
  clear hM
  have hA : Below w1.heap.size w1 (w1.alloc (.cells #[.slice a_w0 n c_w0] 24)) := (Below.refl _ _).alloc (Nat.le_refl _) _
  have X_w0 := Lib.hid (box_new w1 (.cells #[.slice a_w0 n c_w0] 24))
  have x_w0 := box_cells X_w0.out
  replace s_w0 := s_w0.below hA (by omega)
  replace BB := BB.trans (hA.mono (by omega))
  clear hA
  have hc0 := BB.size
  go_wp2_with fail
  generalize hv : w1.alloc (.cells #[.slice a_w0 n c_w0] 24) = v0 at *
  have hs_v0 : v0.heap.size = w1.heap.size + 1 := by rw [← hv]; simp
  clear hv
  refine (implOneR_any pn n rl cd _ HR.out HRL.out).mono ?_
  rintro e w2 ⟨a_g0, c_g0, rfl, k_g0, hM, hb⟩
  have hz2 : v0.heap.size ≤ w2.heap.size := hb.size
  replace X_w0 := Lib.hid (box_below X_w0.out hb (by omega))
  replace x_w0 := box_cells X_w0.out
  replace s_w0 := s_w0.below hb (by omega)
  replace BB : Below w.heap.size w w2 := BB.trans (hb.mono (by omega))
  clear hb
  clear hc0
  have s_g0 := Sl.of hM
  clear hM
  have hA : Below w2.heap.size w2 (w2.alloc (.cells #[.slice a_g0 n c_g0] 24)) := (Below.refl _ _).alloc (Nat.le_refl _) _
  replace X_w0 := Lib.hid (box_below X_w0.out hA (by omega))
  replace x_w0 := box_cells X_w0.out
  have X_g0 := Lib.hid (box_new w2 (.cells #[.slice a_g0 n c_g0] 24))
  have x_g0 := box_cells X_g0.out
  replace s_w0 := s_w0.below hA (by omega)
  replace s_g0 := s_g0.below hA (by omega)
  replace BB := BB.trans (hA.mono (by omega))
  clear hA
  go_wp2_with fail
  generalize hv : w2.alloc (.cells #[.slice a_g0 n c_g0] 24) = v1 at *
  have hs_v1 : v1.heap.size = w2.heap.size + 1 := by rw [← hv]; simp
  clear hv
  refine (eqLayout_same a_g0 a_w0 n c_g0 c_w0 rl _ s_g0.at s_w0.at HRL.out (by omega)).mono ?_
  rintro e w3 ⟨rfl, hb⟩
  have hz3 : v1.heap.size ≤ w3.heap.size := hb.size
  replace X_w0 := Lib.hid (box_below X_w0.out hb (by omega))
  replace x_w0 := box_cells X_w0.out
  replace X_g0 := Lib.hid (box_below X_g0.out hb (by omega))
  replace x_g0 := box_cells X_g0.out
  replace s_w0 := s_w0.below hb (by omega)
  replace s_g0 := s_g0.below hb (by omega)
  replace BB : Below w.heap.size w w3 := BB.trans (hb.mono (by omega))
  clear hb
  go_wp2_with fail
  refine (markLayout_sl _ _ a_g0 n c_g0 rl 1 _ s_g0 (by omega) HRL.out (by omega) (by omega) (by omega)).mono ?_
  rintro e w4 ⟨rfl, mM, hg⟩
  have hb := hg.below
  have hz4 : w3.heap.size ≤ w4.heap.size := hb.size
  replace X_w0 := Lib.hid (box_below X_w0.out hb (by omega))
  replace x_w0 := box_cells X_w0.out
  replace X_g0 := Lib.hid ((hg.above _ (by omega) (by omega)).trans X_g0.out)
  replace x_g0 := box_cells X_g0.out
  replace s_w0 := s_w0.below hb (by omega)
  replace BB : Below w.heap.size w w4 := BB.trans (hb.mono (by omega))
  clear hb hg
  replace s_g0 := mM
  go_wp2_with fail
  refine (heldLayout_any a_g0 n c_g0 1 _ s_g0.at (by omega) (by omega)).mono ?_
  rintro e w5 ⟨rfl, hb⟩
  have hz5 : w4.heap.size ≤ w5.heap.size := hb.size
  replace X_w0 := Lib.hid (box_below X_w0.out hb (by omega))
  replace x_w0 := box_cells X_w0.out
  replace X_g0 := Lib.hid (box_below X_g0.out hb (by omega))
  replace x_g0 := box_cells X_g0.out
  replace s_w0 := s_w0.below hb (by omega)
  replace s_g0 := s_g0.below hb (by omega)
  replace BB : Below w.heap.size w w5 := BB.trans (hb.mono (by omega))
  clear hb
  have hc0 := BB.size
  go_wp2_with fail
  refine (implOneR_any pn n rl cd _ HR.out HRL.out).mono ?_
  rintro e w6 ⟨a_h0, c_h0, rfl, k_h0, hM, hb⟩
  have hz6 : w5.heap.size ≤ w6.heap.size := hb.size
  replace X_w0 := Lib.hid (box_below X_w0.out hb (by omega))
  replace x_w0 := box_cells X_w0.out
  replace X_g0 := Lib.hid (box_below X_g0.out hb (by omega))
  replace x_g0 := box_cells X_g0.out
  replace s_w0 := s_w0.below hb (by omega)
  replace s_g0 := s_g0.below hb (by omega)
  replace BB : Below w.heap.size w w6 := BB.trans (hb.mono (by omega))
  clear hb
  clear hc0
  have s_h0 := Sl.of hM
  clear hM
  have hA : Below w6.heap.size w6 (w6.alloc (.cells #[.slice a_h0 n c_h0] 24)) := (Below.refl _ _).alloc (Nat.le_refl _) _
  replace X_w0 := Lib.hid (box_below X_w0.out hA (by omega))
  replace x_w0 := box_cells X_w0.out
  replace X_g0 := Lib.hid (box_below X_g0.out hA (by omega))
  replace x_g0 := box_cells X_g0.out
  have X_h0 := Lib.hid (box_new w6 (.cells #[.slice a_h0 n c_h0] 24))
  have x_h0 := box_cells X_h0.out
  replace s_w0 := s_w0.below hA (by omega)
  replace s_g0 := s_g0.below hA (by omega)
  replace s_h0 := s_h0.below hA (by omega)
  replace BB := BB.trans (hA.mono (by omega))
  clear hA
  go_wp2_with fail
  generalize hv : w6.alloc (.cells #[.slice a_h0 n c_h0] 24) = v2 at *
  have hs_v2 : v2.heap.size = w6.heap.size + 1 := by rw [← hv]; simp
  clear hv
  refine (eqLayout_same a_h0 a_w0 n c_h0 c_w0 rl _ s_h0.at s_w0.at HRL.out (by omega)).mono ?_
  rintro e w7 ⟨rfl, hb⟩
  have hz7 : v2.heap.size ≤ w7.heap.size := hb.size
  replace X_w0 := Lib.hid (box_below X_w0.out hb (by omega))
  replace x_w0 := box_cells X_w0.out
  replace X_g0 := Lib.hid (box_below X_g0.out hb (by omega))
  replace x_g0 := box_cells X_g0.out
  replace X_h0 := Lib.hid (box_below X_h0.out hb (by omega))
  replace x_h0 := box_cells X_h0.out
  replace s_w0 := s_w0.below hb (by omega)
  replace s_g0 := s_g0.below hb (by omega)
  replace s_h0 := s_h0.below hb (by omega)
  replace BB : Below w.heap.size w w7 := BB.trans (hb.mono (by omega))
  clear hb
  go_wp2_with fail
  refine (heldLayout_any a_g0 n c_g0 1 _ s_g0.at (by omega) (by omega)).mono ?_
  rintro e w8 ⟨rfl, hb⟩
  have hz8 : w7.heap.size ≤ w8.heap.size := hb.size
  replace X_w0 := Lib.hid (box_below X_w0.out hb (by omega))
  replace x_w0 := box_cells X_w0.out
  replace X_g0 := Lib.hid (box_below X_g0.out hb (by omega))
  replace x_g0 := box_cells X_g0.out
  replace X_h0 := Lib.hid (box_below X_h0.out hb (by omega))
  replace x_h0 := box_cells X_h0.out
  replace s_w0 := s_w0.below hb (by omega)
  replace s_g0 := s_g0.below hb (by omega)
  replace s_h0 := s_h0.below hb (by omega)
  replace BB : Below w.heap.size w w8 := BB.trans (hb.mono (by omega))
  clear hb
  go_wp2_with fail
  go_ret
  exact ⟨rfl, BB⟩
end Go.Proofs.Ytepamcfaiahmbaa
