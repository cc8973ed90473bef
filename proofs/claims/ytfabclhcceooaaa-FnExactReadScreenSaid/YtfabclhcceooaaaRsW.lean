/-
  The walk of the law FnExactReadScreen of the given program. No condition.
-/
import Derived.Test.YtfabclhcceooaaaRs4
import Derived.Test.YtfabclhcceooaaaScrMark
import Derived.Test.YtfabclhcceooaaaAggCell
import Derived.Deep.RegionHeld3
namespace Go.Proofs.Ytfabclhcceooaaa
open Go.ChangeShapes Go.WideShapes Go.ChangeAt Go.RowKit
set_option linter.unusedVariables false
set_option linter.unusedSimpArgs false
attribute [local irreducible] wpList

set_option maxHeartbeats 8000000 in
set_option maxRecDepth 100000 in
theorem walk_FnExactReadScreen (w : World) (a : Option Addr) (len cap : Nat) (l : List UInt8) (ha : At w a (u8s l)) (hl : l.length = len) (hs : len ≤ maxLen) :
    Calls Try.prog 11 #[.slice a len cap] w fun e w' => e = .returned (.bool true) ∧ Below w.heap.size w w' := by
  unfold maxLen at hs
  have HL := Lib.hid hl
  by_cases hbig : 1048576 < len
  · clear hl
    go_enter Try.func11, Try.ntmps11
    go_wp2
    go_ret
    exact ⟨rfl, Below.refl _ _⟩
  obtain ⟨q1, q2, q3, q4, q5, q6, q7, q8, q9, qt, n, rc, lr, rh, cd, hR, hrc, hn1, hrh, hl1⟩ := rds_total l
  obtain ⟨k3, hk3⟩ : ∃ k, k = 1 + 2 * n + lr := ⟨_, rfl⟩
  have HR := Lib.hid hR
  have HRC := Lib.hid hrc
  have HRH := Lib.hid hrh
  have HK3 := Lib.hid hk3
  clear hl hR hrc hrh hk3
  go_enter Try.func11, Try.ntmps11
  have BB : Below w.heap.size w w := Below.refl _ _
  go_wp2_with fail
  refine (toByteS_any a len cap l _ (ha.below BB (Nat.le_refl _)) HL.out (by omega)).mono ?_
  rintro e w1 ⟨a_t0, c_t0, rfl, hB, hb⟩
  have hz1 : w.heap.size ≤ w1.heap.size := hb.size
  replace BB : Below w.heap.size w w1 := BB.trans (hb.mono (by omega))
  clear hb
  have s_t0 := Sl.of hB
  clear hB
  have hc0 := BB.size
  go_wp2_with fail
  refine (specReadScreen_any a_t0 len c_t0 l q1 q2 q3 q4 q5 q6 q7 q8 q9 qt n rc lr rh cd _ s_t0.at HL.out (by omega) HR.out).mono ?_
  rintro e w2 ⟨aC_w0, cC_w0, aH_w0, cH_w0, rfl, k_w0, ap_w0, hC, hH, hb⟩
  have hz2 : w1.heap.size ≤ w2.heap.size := hb.size
  replace s_t0 := s_t0.below hb (by omega)
  replace BB : Below w.heap.size w w2 := BB.trans (hb.mono (by omega))
  clear hb
  clear hc0
  have sC_w0 := Sl.of hC
  clear hC
  have sH_w0 := Sl.of hH
  clear hH
  clear s_t0
  have hA : Below w2.heap.size w2 (w2.alloc (.cells #[.int .i64 q1, .int .i64 q2, .int .i64 q3, .int .i64 q4, .int .i64 q5, .int .i64 q6, .int .i64 q7, .int .i64 q8, .int .i64 q9, .string qt, .slice aC_w0 n cC_w0, .slice aH_w0 lr cH_w0] 42)) := (Below.refl _ _).alloc (Nat.le_refl _) _
  have X_w0 := Lib.hid (box_new w2 (.cells #[.int .i64 q1, .int .i64 q2, .int .i64 q3, .int .i64 q4, .int .i64 q5, .int .i64 q6, .int .i64 q7, .int .i64 q8, .int .i64 q9, .string qt, .slice aC_w0 n cC_w0, .slice aH_w0 lr cH_w0] 42))
  have x_w0 := box_cells X_w0.out
  replace sC_w0 := sC_w0.below hA (by omega)
  replace sH_w0 := sH_w0.below hA (by omega)
  replace BB := BB.trans (hA.mono (by omega))
  clear hA
  go_wp2_with fail
  generalize hv : w2.alloc (.cells #[.int .i64 q1, .int .i64 q2, .int .i64 q3, .int .i64 q4, .int .i64 q5, .int .i64 q6, .int .i64 q7, .int .i64 q8, .int .i64 q9, .string qt, .slice aC_w0 n cC_w0, .slice aH_w0 lr cH_w0] 42) = v0 at *
  have hs_v0 : v0.heap.size = w2.heap.size + 1 := by rw [← hv]; simp
  clear hv
  refine (toByteS_any a len cap l _ (ha.below BB (Nat.le_refl _)) HL.out (by omega)).mono ?_
  rintro e w3 ⟨a_x0, c_x0, rfl, hB, hb⟩
  have hz3 : v0.heap.size ≤ w3.heap.size := hb.size
  replace X_w0 := Lib.hid (box_below X_w0.out hb (by omega))
  replace x_w0 := box_cells X_w0.out
  replace sC_w0 := sC_w0.below hb (by omega)
  replace sH_w0 := sH_w0.below hb (by omega)
  replace BB : Below w.heap.size w w3 := BB.trans (hb.mono (by omega))
  clear hb
  have s_x0 := Sl.of hB
  clear hB
  have hc0 := BB.size
  go_wp2_with fail
  refine (implReadScreen_any a_x0 len c_x0 l q1 q2 q3 q4 q5 q6 q7 q8 q9 qt n rc lr rh cd _ s_x0.at HL.out (by omega) HR.out).mono ?_
  rintro e w4 ⟨aC_g0, cC_g0, aH_g0, cH_g0, rfl, k_g0, ap_g0, hC, hH, hb⟩
  have hz4 : w3.heap.size ≤ w4.heap.size := hb.size
  replace X_w0 := Lib.hid (box_below X_w0.out hb (by omega))
  replace x_w0 := box_cells X_w0.out
  replace sC_w0 := sC_w0.below hb (by omega)
  replace sH_w0 := sH_w0.below hb (by omega)
  replace s_x0 := s_x0.below hb (by omega)
  replace BB : Below w.heap.size w w4 := BB.trans (hb.mono (by omega))
  clear hb
  clear hc0
  have sC_g0 := Sl.of hC
  clear hC
  have sH_g0 := Sl.of hH
  clear hH
  have hA : Below w4.heap.size w4 (w4.alloc (.cells #[.int .i64 q1, .int .i64 q2, .int .i64 q3, .int .i64 q4, .int .i64 q5, .int .i64 q6, .int .i64 q7, .int .i64 q8, .int .i64 q9, .string qt, .slice aC_g0 n cC_g0, .slice aH_g0 lr cH_g0] 42)) := (Below.refl _ _).alloc (Nat.le_refl _) _
  replace X_w0 := Lib.hid (box_below X_w0.out hA (by omega))
  replace x_w0 := box_cells X_w0.out
  have X_g0 := Lib.hid (box_new w4 (.cells #[.int .i64 q1, .int .i64 q2, .int .i64 q3, .int .i64 q4, .int .i64 q5, .int .i64 q6, .int .i64 q7, .int .i64 q8, .int .i64 q9, .string qt, .slice aC_g0 n cC_g0, .slice aH_g0 lr cH_g0] 42))
  have x_g0 := box_cells X_g0.out
  replace sC_w0 := sC_w0.below hA (by omega)
  replace sH_w0 := sH_w0.below hA (by omega)
  replace s_x0 := s_x0.below hA (by omega)
  replace sC_g0 := sC_g0.below hA (by omega)
  replace sH_g0 := sH_g0.below hA (by omega)
  replace BB := BB.trans (hA.mono (by omega))
  clear hA
  go_wp2_with fail
  generalize hv : w4.alloc (.cells #[.int .i64 q1, .int .i64 q2, .int .i64 q3, .int .i64 q4, .int .i64 q5, .int .i64 q6, .int .i64 q7, .int .i64 q8, .int .i64 q9, .string qt, .slice aC_g0 n cC_g0, .slice aH_g0 lr cH_g0] 42) = v1 at *
  have hs_v1 : v1.heap.size = w4.heap.size + 1 := by rw [← hv]; simp
  clear hv
  refine (eqScreen_same q1 q2 q3 q4 q5 q6 q7 q8 q9 qt aC_g0 aC_w0 n cC_g0 cC_w0 rc aH_g0 aH_w0 lr cH_g0 cH_w0 rh _ sC_g0.at sC_w0.at HRC.out (by omega) sH_g0.at sH_w0.at HRH.out (by unfold maxLen; omega)).mono ?_
  rintro e w5 ⟨rfl, hb⟩
  have hz5 : v1.heap.size ≤ w5.heap.size := hb.size
  replace X_w0 := Lib.hid (box_below X_w0.out hb (by omega))
  replace x_w0 := box_cells X_w0.out
  replace X_g0 := Lib.hid (box_below X_g0.out hb (by omega))
  replace x_g0 := box_cells X_g0.out
  replace sC_w0 := sC_w0.below hb (by omega)
  replace sH_w0 := sH_w0.below hb (by omega)
  replace s_x0 := s_x0.below hb (by omega)
  replace sC_g0 := sC_g0.below hb (by omega)
  replace sH_g0 := sH_g0.below hb (by omega)
  replace BB : Below w.heap.size w w5 := BB.trans (hb.mono (by omega))
  clear hb
  go_wp2_with fail
  refine (toByteS_any a len cap l _ (ha.below BB (Nat.le_refl _)) HL.out (by omega)).mono ?_
  rintro e w6 ⟨a_u, c_u, rfl, hB, hb⟩
  have hz6 : w5.heap.size ≤ w6.heap.size := hb.size
  replace X_w0 := Lib.hid (box_below X_w0.out hb (by omega))
  replace x_w0 := box_cells X_w0.out
  replace X_g0 := Lib.hid (box_below X_g0.out hb (by omega))
  replace x_g0 := box_cells X_g0.out
  replace sC_w0 := sC_w0.below hb (by omega)
  replace sH_w0 := sH_w0.below hb (by omega)
  replace s_x0 := s_x0.below hb (by omega)
  replace sC_g0 := sC_g0.below hb (by omega)
  replace sH_g0 := sH_g0.below hb (by omega)
  replace BB : Below w.heap.size w w6 := BB.trans (hb.mono (by omega))
  clear hb
  have s_u := Sl.of hB
  clear hB
  go_wp2_with fail
  refine (eqByteS_same a_x0 a_u len c_x0 c_u l _ s_x0.at s_u.at HL.out (by unfold maxLen; omega)).mono ?_
  rintro e w7 ⟨rfl, hb⟩
  have hz7 : w6.heap.size ≤ w7.heap.size := hb.size
  replace X_w0 := Lib.hid (box_below X_w0.out hb (by omega))
  replace x_w0 := box_cells X_w0.out
  replace X_g0 := Lib.hid (box_below X_g0.out hb (by omega))
  replace x_g0 := box_cells X_g0.out
  replace sC_w0 := sC_w0.below hb (by omega)
  replace sH_w0 := sH_w0.below hb (by omega)
  replace s_x0 := s_x0.below hb (by omega)
  replace sC_g0 := sC_g0.below hb (by omega)
  replace sH_g0 := sH_g0.below hb (by omega)
  replace s_u := s_u.below hb (by omega)
  replace BB : Below w.heap.size w w7 := BB.trans (hb.mono (by omega))
  clear hb
  clear s_u
  go_wp2_with fail
  refine (markByteS_sl _ _ a_x0 len c_x0 _ 1 _ s_x0 (by rw [length_u8s]; exact HL.out) (by omega) (by omega) (by omega)).mono ?_
  rintro e w8 ⟨rfl, mB, hg⟩
  have hb := hg.below
  have hz8 : w7.heap.size ≤ w8.heap.size := hb.size
  replace X_w0 := Lib.hid (box_below X_w0.out hb (by omega))
  replace x_w0 := box_cells X_w0.out
  replace X_g0 := Lib.hid ((hg.above _ (by omega) (by omega)).trans X_g0.out)
  replace x_g0 := box_cells X_g0.out
  replace sC_w0 := sC_w0.below hb (by omega)
  replace sH_w0 := sH_w0.below hb (by omega)
  replace sC_g0 := sC_g0.above hg (by omega)
  replace sH_g0 := sH_g0.above hg (by omega)
  replace BB : Below w.heap.size w w8 := BB.trans (hb.mono (by omega))
  clear hb hg
  replace s_x0 := mB
  clear s_x0
  go_wp2_with fail
  refine (eqScreen_same q1 q2 q3 q4 q5 q6 q7 q8 q9 qt aC_g0 aC_w0 n cC_g0 cC_w0 rc aH_g0 aH_w0 lr cH_g0 cH_w0 rh _ sC_g0.at sC_w0.at HRC.out (by omega) sH_g0.at sH_w0.at HRH.out (by unfold maxLen; omega)).mono ?_
  rintro e w9 ⟨rfl, hb⟩
  have hz9 : w8.heap.size ≤ w9.heap.size := hb.size
  replace X_w0 := Lib.hid (box_below X_w0.out hb (by omega))
  replace x_w0 := box_cells X_w0.out
  replace X_g0 := Lib.hid (box_below X_g0.out hb (by omega))
  replace x_g0 := box_cells X_g0.out
  replace sC_w0 := sC_w0.below hb (by omega)
  replace sH_w0 := sH_w0.below hb (by omega)
  replace sC_g0 := sC_g0.below hb (by omega)
  replace sH_g0 := sH_g0.below hb (by omega)
  replace BB : Below w.heap.size w w9 := BB.trans (hb.mono (by omega))
  clear hb
  go_wp2_with fail
  refine (markScreen_sl q1 q2 q3 q4 q5 q6 q7 q8 q9 qt _ _ aC_g0 n cC_g0 rc aH_g0 lr cH_g0 rh _ sC_g0 sH_g0 ap_g0 HRC.out HRH.out (by omega) (by omega) 0 k3 HK3.out (by omega) (by omega)).mono ?_
  rintro e w10 ⟨rfl, mC, mH, hg⟩
  have hb := hg.below
  have hz10 : w9.heap.size ≤ w10.heap.size := hb.size
  replace X_w0 := Lib.hid (box_below X_w0.out hb (by omega))
  replace x_w0 := box_cells X_w0.out
  replace X_g0 := Lib.hid ((hg.above _ (by omega) (by omega)).trans X_g0.out)
  replace x_g0 := box_cells X_g0.out
  replace sC_w0 := sC_w0.below hb (by omega)
  replace sH_w0 := sH_w0.below hb (by omega)
  replace BB : Below w.heap.size w w10 := BB.trans (hb.mono (by omega))
  clear hb hg
  replace sC_g0 := mC
  replace sH_g0 := mH
  go_wp2_with fail
  refine (heldScreen_any q1 q2 q3 q4 q5 q6 q7 q8 q9 qt aC_g0 n cC_g0 aH_g0 lr cH_g0 _ sC_g0.at sH_g0.at (by omega) (by omega) k3 HK3.out).mono ?_
  rintro e w11 ⟨rfl, hb⟩
  have hz11 : w10.heap.size ≤ w11.heap.size := hb.size
  replace X_w0 := Lib.hid (box_below X_w0.out hb (by omega))
  replace x_w0 := box_cells X_w0.out
  replace X_g0 := Lib.hid (box_below X_g0.out hb (by omega))
  replace x_g0 := box_cells X_g0.out
  replace sC_w0 := sC_w0.below hb (by omega)
  replace sH_w0 := sH_w0.below hb (by omega)
  replace sC_g0 := sC_g0.below hb (by omega)
  replace sH_g0 := sH_g0.below hb (by omega)
  replace BB : Below w.heap.size w w11 := BB.trans (hb.mono (by omega))
  clear hb
  go_wp2_with fail
  refine (toByteS_any a len cap l _ (ha.below BB (Nat.le_refl _)) HL.out (by omega)).mono ?_
  rintro e w12 ⟨a_t3, c_t3, rfl, hB, hb⟩
  have hz12 : w11.heap.size ≤ w12.heap.size := hb.size
  replace X_w0 := Lib.hid (box_below X_w0.out hb (by omega))
  replace x_w0 := box_cells X_w0.out
  replace X_g0 := Lib.hid (box_below X_g0.out hb (by omega))
  replace x_g0 := box_cells X_g0.out
  replace sC_w0 := sC_w0.below hb (by omega)
  replace sH_w0 := sH_w0.below hb (by omega)
  replace sC_g0 := sC_g0.below hb (by omega)
  replace sH_g0 := sH_g0.below hb (by omega)
  replace BB : Below w.heap.size w w12 := BB.trans (hb.mono (by omega))
  clear hb
  have s_t3 := Sl.of hB
  clear hB
  have hc0 := BB.size
  go_wp2_with fail
  refine (implReadScreen_any a_t3 len c_t3 l q1 q2 q3 q4 q5 q6 q7 q8 q9 qt n rc lr rh cd _ s_t3.at HL.out (by omega) HR.out).mono ?_
  rintro e w13 ⟨aC_h0, cC_h0, aH_h0, cH_h0, rfl, k_h0, ap_h0, hC, hH, hb⟩
  have hz13 : w12.heap.size ≤ w13.heap.size := hb.size
  replace X_w0 := Lib.hid (box_below X_w0.out hb (by omega))
  replace x_w0 := box_cells X_w0.out
  replace X_g0 := Lib.hid (box_below X_g0.out hb (by omega))
  replace x_g0 := box_cells X_g0.out
  replace sC_w0 := sC_w0.below hb (by omega)
  replace sH_w0 := sH_w0.below hb (by omega)
  replace sC_g0 := sC_g0.below hb (by omega)
  replace sH_g0 := sH_g0.below hb (by omega)
  replace s_t3 := s_t3.below hb (by omega)
  replace BB : Below w.heap.size w w13 := BB.trans (hb.mono (by omega))
  clear hb
  clear hc0
  have sC_h0 := Sl.of hC
  clear hC
  have sH_h0 := Sl.of hH
  clear hH
  clear s_t3
  have hA : Below w13.heap.size w13 (w13.alloc (.cells #[.int .i64 q1, .int .i64 q2, .int .i64 q3, .int .i64 q4, .int .i64 q5, .int .i64 q6, .int .i64 q7, .int .i64 q8, .int .i64 q9, .string qt, .slice aC_h0 n cC_h0, .slice aH_h0 lr cH_h0] 42)) := (Below.refl _ _).alloc (Nat.le_refl _) _
  replace X_w0 := Lib.hid (box_below X_w0.out hA (by omega))
  replace x_w0 := box_cells X_w0.out
  replace X_g0 := Lib.hid (box_below X_g0.out hA (by omega))
  replace x_g0 := box_cells X_g0.out
  have X_h0 := Lib.hid (box_new w13 (.cells #[.int .i64 q1, .int .i64 q2, .int .i64 q3, .int .i64 q4, .int .i64 q5, .int .i64 q6, .int .i64 q7, .int .i64 q8, .int .i64 q9, .string qt, .slice aC_h0 n cC_h0, .slice aH_h0 lr cH_h0] 42))
  have x_h0 := box_cells X_h0.out
  replace sC_w0 := sC_w0.below hA (by omega)
  replace sH_w0 := sH_w0.below hA (by omega)
  replace sC_g0 := sC_g0.below hA (by omega)
  replace sH_g0 := sH_g0.below hA (by omega)
  replace sC_h0 := sC_h0.below hA (by omega)
  replace sH_h0 := sH_h0.below hA (by omega)
  replace BB := BB.trans (hA.mono (by omega))
  clear hA
  go_wp2_with fail
  generalize hv : w13.alloc (.cells #[.int .i64 q1, .int .i64 q2, .int .i64 q3, .int .i64 q4, .int .i64 q5, .int .i64 q6, .int .i64 q7, .int .i64 q8, .int .i64 q9, .string qt, .slice aC_h0 n cC_h0, .slice aH_h0 lr cH_h0] 42) = v2 at *
  have hs_v2 : v2.heap.size = w13.heap.size + 1 := by rw [← hv]; simp
  clear hv
  refine (eqScreen_same q1 q2 q3 q4 q5 q6 q7 q8 q9 qt aC_h0 aC_w0 n cC_h0 cC_w0 rc aH_h0 aH_w0 lr cH_h0 cH_w0 rh _ sC_h0.at sC_w0.at HRC.out (by omega) sH_h0.at sH_w0.at HRH.out (by unfold maxLen; omega)).mono ?_
  rintro e w14 ⟨rfl, hb⟩
  have hz14 : v2.heap.size ≤ w14.heap.size := hb.size
  replace X_w0 := Lib.hid (box_below X_w0.out hb (by omega))
  replace x_w0 := box_cells X_w0.out
  replace X_g0 := Lib.hid (box_below X_g0.out hb (by omega))
  replace x_g0 := box_cells X_g0.out
  replace X_h0 := Lib.hid (box_below X_h0.out hb (by omega))
  replace x_h0 := box_cells X_h0.out
  replace sC_w0 := sC_w0.below hb (by omega)
  replace sH_w0 := sH_w0.below hb (by omega)
  replace sC_g0 := sC_g0.below hb (by omega)
  replace sH_g0 := sH_g0.below hb (by omega)
  replace sC_h0 := sC_h0.below hb (by omega)
  replace sH_h0 := sH_h0.below hb (by omega)
  replace BB : Below w.heap.size w w14 := BB.trans (hb.mono (by omega))
  clear hb
  go_wp2_with fail
  refine (heldScreen_any q1 q2 q3 q4 q5 q6 q7 q8 q9 qt aC_g0 n cC_g0 aH_g0 lr cH_g0 _ sC_g0.at sH_g0.at (by omega) (by omega) k3 HK3.out).mono ?_
  rintro e w15 ⟨rfl, hb⟩
  have hz15 : w14.heap.size ≤ w15.heap.size := hb.size
  replace X_w0 := Lib.hid (box_below X_w0.out hb (by omega))
  replace x_w0 := box_cells X_w0.out
  replace X_g0 := Lib.hid (box_below X_g0.out hb (by omega))
  replace x_g0 := box_cells X_g0.out
  replace X_h0 := Lib.hid (box_below X_h0.out hb (by omega))
  replace x_h0 := box_cells X_h0.out
  replace sC_w0 := sC_w0.below hb (by omega)
  replace sH_w0 := sH_w0.below hb (by omega)
  replace sC_g0 := sC_g0.below hb (by omega)
  replace sH_g0 := sH_g0.below hb (by omega)
  replace sC_h0 := sC_h0.below hb (by omega)
  replace sH_h0 := sH_h0.below hb (by omega)
  replace BB : Below w.heap.size w w15 := BB.trans (hb.mono (by omega))
  clear hb
  go_wp2_with fail
  go_ret
  exact ⟨rfl, BB⟩
end Go.Proofs.Ytfabclhcceooaaa
