/-
  The walk of the law FnExactNewScreen of the given program. No condition.
-/
import Derived.Test.YtfabclhcceooaaaNewScr2
import Derived.Deep.RegionHeld3
namespace Go.Proofs.Ytfabclhcceooaaa
open Go.ChangeShapes Go.WideShapes Go.ChangeAt Go.RowKit
set_option linter.unusedVariables false
set_option linter.unusedSimpArgs false
attribute [local irreducible] wpList

set_option maxHeartbeats 8000000 in
set_option maxRecDepth 100000 in
theorem walk_FnExactNewScreen (aw : Int) (_ : (Lit.int .i64 aw).wf = true) (ah : Int) (_ : (Lit.int .i64 ah).wf = true) (w : World) :
    Calls Try.prog 6 #[.int .i64 aw, .int .i64 ah] w fun e w' => e = .returned (.bool true) ∧ Below w.heap.size w w' := by
  obtain ⟨n, hn⟩ : ∃ n, newN aw ah = n := ⟨_, rfl⟩
  have hn2 : n ≤ 240 := by rw [← hn]; exact newN_le aw ah
  obtain ⟨q1, h1⟩ : ∃ q, newI aw ah aw = q := ⟨_, rfl⟩
  obtain ⟨q2, h2⟩ : ∃ q, newI aw ah ah = q := ⟨_, rfl⟩
  obtain ⟨q3, h3⟩ : ∃ q, newI aw ah (ah - 1) = q := ⟨_, rfl⟩
  obtain ⟨cd, h4⟩ : ∃ q, (if sizeB aw ah then 0 else 4 : Int) = q := ⟨_, rfl⟩
  obtain ⟨k2, hk⟩ : ∃ k, k = 1 + 2 * n + 0 := ⟨_, rfl⟩
  have HN := Lib.hid hn
  have H1 := Lib.hid h1
  have H2 := Lib.hid h2
  have H3 := Lib.hid h3
  have H4 := Lib.hid h4
  have HK := Lib.hid hk
  clear hn h1 h2 h3 h4 hk
  go_enter Try.func6, Try.ntmps6
  have BB : Below w.heap.size w w := Below.refl _ _
  have hc0 := BB.size
  go_wp2_with fail
  refine (specNewScreen_any aw ah n q1 q2 q3 cd _ HN.out H1.out H2.out H3.out H4.out).mono ?_
  rintro e w1 ⟨aC_w0, cC_w0, aH_w0, cH_w0, rfl, k_w0, ap_w0, hC, hH, hb⟩
  have hz1 : w.heap.size ≤ w1.heap.size := hb.size
  replace BB : Below w.heap.size w w1 := BB.trans (hb.mono (by omega))
  clear hb
  clear hc0
  have sC_w0 := Sl.of hC
  clear hC
  have sH_w0 := Sl.of hH
  clear hH
  have hA : Below w1.heap.size w1 (w1.alloc (.cells #[.int .i64 q1, .int .i64 q2, .int .i64 0, .int .i64 0, .int .i64 0, .int .i64 0, .int .i64 q3, .int .i64 0, .int .i64 0, .string ⟨#[]⟩, .slice aC_w0 n cC_w0, .slice aH_w0 0 cH_w0] 42)) := (Below.refl _ _).alloc (Nat.le_refl _) _
  have X_w0 := Lib.hid (box_new w1 (.cells #[.int .i64 q1, .int .i64 q2, .int .i64 0, .int .i64 0, .int .i64 0, .int .i64 0, .int .i64 q3, .int .i64 0, .int .i64 0, .string ⟨#[]⟩, .slice aC_w0 n cC_w0, .slice aH_w0 0 cH_w0] 42))
  have x_w0 := box_cells X_w0.out
  replace sC_w0 := sC_w0.below hA (by omega)
  replace sH_w0 := sH_w0.below hA (by omega)
  replace BB := BB.trans (hA.mono (by omega))
  clear hA
  have hc0 := BB.size
  go_wp2_with fail
  generalize hv : w1.alloc (.cells #[.int .i64 q1, .int .i64 q2, .int .i64 0, .int .i64 0, .int .i64 0, .int .i64 0, .int .i64 q3, .int .i64 0, .int .i64 0, .string ⟨#[]⟩, .slice aC_w0 n cC_w0, .slice aH_w0 0 cH_w0] 42) = v0 at *
  have hs_v0 : v0.heap.size = w1.heap.size + 1 := by rw [← hv]; simp
  clear hv
  refine (implNewScreen_any aw ah n q1 q2 q3 cd _ HN.out H1.out H2.out H3.out H4.out).mono ?_
  rintro e w2 ⟨aC_g0, cC_g0, aH_g0, cH_g0, rfl, k_g0, ap_g0, hC, hH, hb⟩
  have hz2 : v0.heap.size ≤ w2.heap.size := hb.size
  replace X_w0 := Lib.hid (box_below X_w0.out hb (by omega))
  replace x_w0 := box_cells X_w0.out
  replace sC_w0 := sC_w0.below hb (by omega)
  replace sH_w0 := sH_w0.below hb (by omega)
  replace BB : Below w.heap.size w w2 := BB.trans (hb.mono (by omega))
  clear hb
  clear hc0
  have sC_g0 := Sl.of hC
  clear hC
  have sH_g0 := Sl.of hH
  clear hH
  have hA : Below w2.heap.size w2 (w2.alloc (.cells #[.int .i64 q1, .int .i64 q2, .int .i64 0, .int .i64 0, .int .i64 0, .int .i64 0, .int .i64 q3, .int .i64 0, .int .i64 0, .string ⟨#[]⟩, .slice aC_g0 n cC_g0, .slice aH_g0 0 cH_g0] 42)) := (Below.refl _ _).alloc (Nat.le_refl _) _
  replace X_w0 := Lib.hid (box_below X_w0.out hA (by omega))
  replace x_w0 := box_cells X_w0.out
  have X_g0 := Lib.hid (box_new w2 (.cells #[.int .i64 q1, .int .i64 q2, .int .i64 0, .int .i64 0, .int .i64 0, .int .i64 0, .int .i64 q3, .int .i64 0, .int .i64 0, .string ⟨#[]⟩, .slice aC_g0 n cC_g0, .slice aH_g0 0 cH_g0] 42))
  have x_g0 := box_cells X_g0.out
  replace sC_w0 := sC_w0.below hA (by omega)
  replace sH_w0 := sH_w0.below hA (by omega)
  replace sC_g0 := sC_g0.below hA (by omega)
  replace sH_g0 := sH_g0.below hA (by omega)
  replace BB := BB.trans (hA.mono (by omega))
  clear hA
  go_wp2_with fail
  generalize hv : w2.alloc (.cells #[.int .i64 q1, .int .i64 q2, .int .i64 0, .int .i64 0, .int .i64 0, .int .i64 0, .int .i64 q3, .int .i64 0, .int .i64 0, .string ⟨#[]⟩, .slice aC_g0 n cC_g0, .slice aH_g0 0 cH_g0] 42) = v1 at *
  have hs_v1 : v1.heap.size = w2.heap.size + 1 := by rw [← hv]; simp
  clear hv
  refine (eqScreen_same q1 q2 0 0 0 0 q3 0 0 ⟨#[]⟩ aC_g0 aC_w0 n cC_g0 cC_w0 (List.replicate n (32, 0)) aH_g0 aH_w0 0 cH_g0 cH_w0 [] _ sC_g0.at sC_w0.at List.length_replicate (by omega) sH_g0.at sH_w0.at rfl (by decide)).mono ?_
  rintro e w3 ⟨rfl, hb⟩
  have hz3 : v1.heap.size ≤ w3.heap.size := hb.size
  replace X_w0 := Lib.hid (box_below X_w0.out hb (by omega))
  replace x_w0 := box_cells X_w0.out
  replace X_g0 := Lib.hid (box_below X_g0.out hb (by omega))
  replace x_g0 := box_cells X_g0.out
  replace sC_w0 := sC_w0.below hb (by omega)
  replace sH_w0 := sH_w0.below hb (by omega)
  replace sC_g0 := sC_g0.below hb (by omega)
  replace sH_g0 := sH_g0.below hb (by omega)
  replace BB : Below w.heap.size w w3 := BB.trans (hb.mono (by omega))
  clear hb
  go_wp2_with fail
  refine (markScreen_sl q1 q2 0 0 0 0 q3 0 0 ⟨#[]⟩ _ _ aC_g0 n cC_g0 (List.replicate n (32, 0)) aH_g0 0 cH_g0 [] _ sC_g0 sH_g0 ap_g0 List.length_replicate rfl (by omega) (by decide) 0 k2 HK.out (by omega) (by omega)).mono ?_
  rintro e w4 ⟨rfl, mC, mH, hg⟩
  have hb := hg.below
  have hz4 : w3.heap.size ≤ w4.heap.size := hb.size
  replace X_w0 := Lib.hid (box_below X_w0.out hb (by omega))
  replace x_w0 := box_cells X_w0.out
  replace X_g0 := Lib.hid ((hg.above _ (by omega) (by omega)).trans X_g0.out)
  replace x_g0 := box_cells X_g0.out
  replace sC_w0 := sC_w0.below hb (by omega)
  replace sH_w0 := sH_w0.below hb (by omega)
  replace BB : Below w.heap.size w w4 := BB.trans (hb.mono (by omega))
  clear hb hg
  replace sC_g0 := mC
  replace sH_g0 := mH
  go_wp2_with fail
  refine (heldScreen_any q1 q2 0 0 0 0 q3 0 0 ⟨#[]⟩ aC_g0 n cC_g0 aH_g0 0 cH_g0 _ sC_g0.at sH_g0.at (by omega) (by decide) k2 HK.out).mono ?_
  rintro e w5 ⟨rfl, hb⟩
  have hz5 : w4.heap.size ≤ w5.heap.size := hb.size
  replace X_w0 := Lib.hid (box_below X_w0.out hb (by omega))
  replace x_w0 := box_cells X_w0.out
  replace X_g0 := Lib.hid (box_below X_g0.out hb (by omega))
  replace x_g0 := box_cells X_g0.out
  replace sC_w0 := sC_w0.below hb (by omega)
  replace sH_w0 := sH_w0.below hb (by omega)
  replace sC_g0 := sC_g0.below hb (by omega)
  replace sH_g0 := sH_g0.below hb (by omega)
  replace BB : Below w.heap.size w w5 := BB.trans (hb.mono (by omega))
  clear hb
  have hc0 := BB.size
  go_wp2_with fail
  refine (implNewScreen_any aw ah n q1 q2 q3 cd _ HN.out H1.out H2.out H3.out H4.out).mono ?_
  rintro e w6 ⟨aC_h0, cC_h0, aH_h0, cH_h0, rfl, k_h0, ap_h0, hC, hH, hb⟩
  have hz6 : w5.heap.size ≤ w6.heap.size := hb.size
  replace X_w0 := Lib.hid (box_below X_w0.out hb (by omega))
  replace x_w0 := box_cells X_w0.out
  replace X_g0 := Lib.hid (box_below X_g0.out hb (by omega))
  replace x_g0 := box_cells X_g0.out
  replace sC_w0 := sC_w0.below hb (by omega)
  replace sH_w0 := sH_w0.below hb (by omega)
  replace sC_g0 := sC_g0.below hb (by omega)
  replace sH_g0 := sH_g0.below hb (by omega)
  replace BB : Below w.heap.size w w6 := BB.trans (hb.mono (by omega))
  clear hb
  clear hc0
  have sC_h0 := Sl.of hC
  clear hC
  have sH_h0 := Sl.of hH
  clear hH
  have hA : Below w6.heap.size w6 (w6.alloc (.cells #[.int .i64 q1, .int .i64 q2, .int .i64 0, .int .i64 0, .int .i64 0, .int .i64 0, .int .i64 q3, .int .i64 0, .int .i64 0, .string ⟨#[]⟩, .slice aC_h0 n cC_h0, .slice aH_h0 0 cH_h0] 42)) := (Below.refl _ _).alloc (Nat.le_refl _) _
  replace X_w0 := Lib.hid (box_below X_w0.out hA (by omega))
  replace x_w0 := box_cells X_w0.out
  replace X_g0 := Lib.hid (box_below X_g0.out hA (by omega))
  replace x_g0 := box_cells X_g0.out
  have X_h0 := Lib.hid (box_new w6 (.cells #[.int .i64 q1, .int .i64 q2, .int .i64 0, .int .i64 0, .int .i64 0, .int .i64 0, .int .i64 q3, .int .i64 0, .int .i64 0, .string ⟨#[]⟩, .slice aC_h0 n cC_h0, .slice aH_h0 0 cH_h0] 42))
  have x_h0 := box_cells X_h0.out
  replace sC_w0 := sC_w0.below hA (by omega)
  replace sH_w0 := sH_w0.below hA (by omega)
  replace sC_g0 := sC_g0.below hA (by omega)
  replace sH_g0 := sH_g0.below hA (by omega)
  replace sC_h0 := sC_h0.below hA (by omega)
  replace sH_h0 := sH_h0.below hA (by omega)
  replace BB := BB.trans (hA.mono (by omega))
  clear hA
  go_wp2_with fail
  generalize hv : w6.alloc (.cells #[.int .i64 q1, .int .i64 q2, .int .i64 0, .int .i64 0, .int .i64 0, .int .i64 0, .int .i64 q3, .int .i64 0, .int .i64 0, .string ⟨#[]⟩, .slice aC_h0 n cC_h0, .slice aH_h0 0 cH_h0] 42) = v2 at *
  have hs_v2 : v2.heap.size = w6.heap.size + 1 := by rw [← hv]; simp
  clear hv
  refine (eqScreen_same q1 q2 0 0 0 0 q3 0 0 ⟨#[]⟩ aC_h0 aC_w0 n cC_h0 cC_w0 (List.replicate n (32, 0)) aH_h0 aH_w0 0 cH_h0 cH_w0 [] _ sC_h0.at sC_w0.at List.length_replicate (by omega) sH_h0.at sH_w0.at rfl (by decide)).mono ?_
  rintro e w7 ⟨rfl, hb⟩
  have hz7 : v2.heap.size ≤ w7.heap.size := hb.size
  replace X_w0 := Lib.hid (box_below X_w0.out hb (by omega))
  replace x_w0 := box_cells X_w0.out
  replace X_g0 := Lib.hid (box_below X_g0.out hb (by omega))
  replace x_g0 := box_cells X_g0.out
  replace X_h0 := Lib.hid (box_below X_h0.out hb (by omega))
  replace x_h0 := box_cells X_h0.out
  replace sC_w0 := sC_w0.below hb (by omega)
  replace sH_w0 := sH_w0.below hb (by omega)
  replace sC_g0 := sC_g0.below hb (by omega)
  replace sH_g0 := sH_g0.below hb (by omega)
  replace sC_h0 := sC_h0.below hb (by omega)
  replace sH_h0 := sH_h0.below hb (by omega)
  replace BB : Below w.heap.size w w7 := BB.trans (hb.mono (by omega))
  clear hb
  go_wp2_with fail
  refine (heldScreen_any q1 q2 0 0 0 0 q3 0 0 ⟨#[]⟩ aC_g0 n cC_g0 aH_g0 0 cH_g0 _ sC_g0.at sH_g0.at (by omega) (by decide) k2 HK.out).mono ?_
  rintro e w8 ⟨rfl, hb⟩
  have hz8 : w7.heap.size ≤ w8.heap.size := hb.size
  replace X_w0 := Lib.hid (box_below X_w0.out hb (by omega))
  replace x_w0 := box_cells X_w0.out
  replace X_g0 := Lib.hid (box_below X_g0.out hb (by omega))
  replace x_g0 := box_cells X_g0.out
  replace X_h0 := Lib.hid (box_below X_h0.out hb (by omega))
  replace x_h0 := box_cells X_h0.out
  replace sC_w0 := sC_w0.below hb (by omega)
  replace sH_w0 := sH_w0.below hb (by omega)
  replace sC_g0 := sC_g0.below hb (by omega)
  replace sH_g0 := sH_g0.below hb (by omega)
  replace sC_h0 := sC_h0.below hb (by omega)
  replace sH_h0 := sH_h0.below hb (by omega)
  replace BB : Below w.heap.size w w8 := BB.trans (hb.mono (by omega))
  clear hb
  go_wp2_with fail
  go_ret
  exact ⟨rfl, BB⟩
end Go.Proofs.Ytfabclhcceooaaa
