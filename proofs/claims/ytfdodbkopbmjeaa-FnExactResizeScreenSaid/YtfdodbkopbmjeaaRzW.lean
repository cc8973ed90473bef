/-
  The walk of the law FnExactResizeScreen of the given program. No condition.
-/
import Derived.Test.YtfdodbkopbmjeaaRz3
import Derived.Test.YtfdodbkopbmjeaaScrMark
import Derived.Test.YtfdodbkopbmjeaaAggCell
import Derived.Deep.RegionHeld3
namespace Go.Proofs.Ytfdodbkopbmjeaa
open Go.ChangeShapes Go.WideShapes Go.ChangeAt Go.RowKit
set_option linter.unusedVariables false
set_option linter.unusedSimpArgs false
attribute [local irreducible] wpList

set_option maxHeartbeats 8000000 in
set_option maxRecDepth 100000 in
theorem walk_FnExactResizeScreen (w : World) (wd : Int) (_ : (Lit.int .i64 wd).wf = true) (ht : Int) (_ : (Lit.int .i64 ht).wf = true) (x : Int) (_ : (Lit.int .i64 x).wf = true) (y : Int) (_ : (Lit.int .i64 y).wf = true) (lk : Int) (_ : (Lit.int .i64 lk).wf = true) (tp : Int) (_ : (Lit.int .i64 tp).wf = true) (bt : Int) (_ : (Lit.int .i64 bt).wf = true) (sx : Int) (_ : (Lit.int .i64 sx).wf = true) (sy : Int) (_ : (Lit.int .i64 sy).wf = true) (ti : ByteArray) (hti : ti.size ≤ maxLen) (aC : Option Addr) (lenC capC : Nat) (cs : List (Int × Int)) (hc : At w aC (cellsV cs)) (hlc : cs.length = lenC) (hnc : lenC ≤ maxLen) (hcc : lenC ≤ capC) (aH : Option Addr) (lenH capH : Nat) (hs : List ByteArray) (hh : At w aH (strs hs)) (hlh : hs.length = lenH) (hnh : lenH ≤ maxLen) (hz : ∀ s ∈ hs, s.size ≤ maxLen) (aw : Int) (_ : (Lit.int .i64 aw).wf = true) (ah : Int) (_ : (Lit.int .i64 ah).wf = true) :
    Calls Try.prog 3 #[.agg #[.int .i64 wd, .int .i64 ht, .int .i64 x, .int .i64 y, .int .i64 lk, .int .i64 tp, .int .i64 bt, .int .i64 sx, .int .i64 sy, .string ti, .slice aC lenC capC, .slice aH lenH capH], .int .i64 aw, .int .i64 ah] w fun e w' => e = .returned (.bool true) ∧ Below w.heap.size w w' := by
  have HLC := Lib.hid hlc
  have HLH := Lib.hid hlh
  have HZ := Lib.hid hz
  obtain ⟨q1, q2, q3, q4, q5, q7, q8, q9, qt, n, rc, lr, rh, cd, hR, hrc, hn1, hrh, hl1⟩ := rsz_total wd ht x y lk tp bt sx sy ti cs hs aw ah
  obtain ⟨k2, hk⟩ : ∃ k, k = 1 + 2 * lenC + lenH := ⟨_, rfl⟩
  obtain ⟨k3, hk3⟩ : ∃ k, k = 1 + 2 * n + lr := ⟨_, rfl⟩
  have HR := Lib.hid hR
  have HRC := Lib.hid hrc
  have HRH := Lib.hid hrh
  have HK := Lib.hid hk
  have HK3 := Lib.hid hk3
  clear hlc hlh hz hR hrc hrh hk hk3
  go_enter Try.func3, Try.ntmps3
  have BB : Below w.heap.size w w := Below.refl _ _
  have hA : Below w.heap.size w (w.alloc (.cells #[.int .i64 wd, .int .i64 ht, .int .i64 x, .int .i64 y, .int .i64 lk, .int .i64 tp, .int .i64 bt, .int .i64 sx, .int .i64 sy, .string ti, .slice aC lenC capC, .slice aH lenH capH] 25)) := (Below.refl _ _).alloc (Nat.le_refl _) _
  have X_aS := Lib.hid (box_new w (.cells #[.int .i64 wd, .int .i64 ht, .int .i64 x, .int .i64 y, .int .i64 lk, .int .i64 tp, .int .i64 bt, .int .i64 sx, .int .i64 sy, .string ti, .slice aC lenC capC, .slice aH lenH capH] 25))
  have x_aS := box_cells X_aS.out
  replace BB := BB.trans (hA.mono (by omega))
  clear hA
  go_wp2_with fail
  generalize hv : w.alloc (.cells #[.int .i64 wd, .int .i64 ht, .int .i64 x, .int .i64 y, .int .i64 lk, .int .i64 tp, .int .i64 bt, .int .i64 sx, .int .i64 sy, .string ti, .slice aC lenC capC, .slice aH lenH capH] 25) = v0 at *
  have hs_v0 : v0.heap.size = w.heap.size + 1 := by rw [← hv]; simp
  clear hv
  refine (szScreen_any wd ht x y lk tp bt sx sy ti aC lenC capC aH lenH capH hs _ hti hnc (hh.below BB (Nat.le_refl _)) HLH.out hnh HZ.out).mono ?_
  rintro e w1 ⟨r, rfl, hr, hb⟩
  have hz1 : v0.heap.size ≤ w1.heap.size := hb.size
  replace X_aS := Lib.hid (box_below X_aS.out hb (by omega))
  replace x_aS := box_cells X_aS.out
  replace BB : Below w.heap.size w w1 := BB.trans (hb.mono (by omega))
  clear hb
  by_cases hneg : r < 0
  · clear hr
    go_wp2
    go_ret
    exact ⟨rfl, BB⟩
  obtain ⟨f1, f2, f3⟩ := hr (by omega)
  clear hr
  have hc0 := BB.size
  go_wp2_with fail
  refine (toScreen_any wd ht x y lk tp bt sx sy ti aC lenC capC cs aH lenH capH hs _ (hc.below BB (Nat.le_refl _)) HLC.out f1 (hh.below BB (Nat.le_refl _)) HLH.out (by omega)).mono ?_
  rintro e w2 ⟨aC_t0, cC_t0, aH_t0, cH_t0, rfl, k_t0, ap_t0, hC, hH, hb⟩
  have hz2 : w1.heap.size ≤ w2.heap.size := hb.size
  replace X_aS := Lib.hid (box_below X_aS.out hb (by omega))
  replace x_aS := box_cells X_aS.out
  replace BB : Below w.heap.size w w2 := BB.trans (hb.mono (by omega))
  clear hb
  clear hc0
  have sC_t0 := Sl.of hC
  clear hC
  have sH_t0 := Sl.of hH
  clear hH
  have hc0 := BB.size
  go_wp2_with fail
  refine (specResizeScreen_any wd ht x y lk tp bt sx sy ti aC_t0 lenC cC_t0 cs aH_t0 lenH cH_t0 hs aw ah q1 q2 q3 q4 q5 q7 q8 q9 qt n rc lr rh cd _ hti sC_t0.at HLC.out hnc sH_t0.at HLH.out hnh HZ.out k_t0 HR.out).mono ?_
  rintro e w3 ⟨aC_w0, cC_w0, aH_w0, cH_w0, rfl, k_w0, ap_w0, hC, hH, hb⟩
  have hz3 : w2.heap.size ≤ w3.heap.size := hb.size
  replace X_aS := Lib.hid (box_below X_aS.out hb (by omega))
  replace x_aS := box_cells X_aS.out
  replace sC_t0 := sC_t0.below hb (by omega)
  replace sH_t0 := sH_t0.below hb (by omega)
  replace BB : Below w.heap.size w w3 := BB.trans (hb.mono (by omega))
  clear hb
  clear hc0
  have sC_w0 := Sl.of hC
  clear hC
  have sH_w0 := Sl.of hH
  clear hH
  clear sC_t0 sH_t0
  have hA : Below w3.heap.size w3 (w3.alloc (.cells #[.int .i64 q1, .int .i64 q2, .int .i64 q3, .int .i64 q4, .int .i64 q5, .int .i64 0, .int .i64 q7, .int .i64 q8, .int .i64 q9, .string qt, .slice aC_w0 n cC_w0, .slice aH_w0 lr cH_w0] 29)) := (Below.refl _ _).alloc (Nat.le_refl _) _
  replace X_aS := Lib.hid (box_below X_aS.out hA (by omega))
  replace x_aS := box_cells X_aS.out
  have X_w0 := Lib.hid (box_new w3 (.cells #[.int .i64 q1, .int .i64 q2, .int .i64 q3, .int .i64 q4, .int .i64 q5, .int .i64 0, .int .i64 q7, .int .i64 q8, .int .i64 q9, .string qt, .slice aC_w0 n cC_w0, .slice aH_w0 lr cH_w0] 29))
  have x_w0 := box_cells X_w0.out
  replace sC_w0 := sC_w0.below hA (by omega)
  replace sH_w0 := sH_w0.below hA (by omega)
  replace BB := BB.trans (hA.mono (by omega))
  clear hA
  have hc0 := BB.size
  go_wp2_with fail
  generalize hv : w3.alloc (.cells #[.int .i64 q1, .int .i64 q2, .int .i64 q3, .int .i64 q4, .int .i64 q5, .int .i64 0, .int .i64 q7, .int .i64 q8, .int .i64 q9, .string qt, .slice aC_w0 n cC_w0, .slice aH_w0 lr cH_w0] 29) = v1 at *
  have hs_v1 : v1.heap.size = w3.heap.size + 1 := by rw [← hv]; simp
  clear hv
  refine (toScreen_any wd ht x y lk tp bt sx sy ti aC lenC capC cs aH lenH capH hs _ (hc.below BB (Nat.le_refl _)) HLC.out f1 (hh.below BB (Nat.le_refl _)) HLH.out (by omega)).mono ?_
  rintro e w4 ⟨aC_x0, cC_x0, aH_x0, cH_x0, rfl, k_x0, ap_x0, hC, hH, hb⟩
  have hz4 : v1.heap.size ≤ w4.heap.size := hb.size
  replace X_aS := Lib.hid (box_below X_aS.out hb (by omega))
  replace x_aS := box_cells X_aS.out
  replace X_w0 := Lib.hid (box_below X_w0.out hb (by omega))
  replace x_w0 := box_cells X_w0.out
  replace sC_w0 := sC_w0.below hb (by omega)
  replace sH_w0 := sH_w0.below hb (by omega)
  replace BB : Below w.heap.size w w4 := BB.trans (hb.mono (by omega))
  clear hb
  clear hc0
  have sC_x0 := Sl.of hC
  clear hC
  have sH_x0 := Sl.of hH
  clear hH
  have hA : Below w4.heap.size w4 (w4.alloc (.cells #[.int .i64 wd, .int .i64 ht, .int .i64 x, .int .i64 y, .int .i64 lk, .int .i64 tp, .int .i64 bt, .int .i64 sx, .int .i64 sy, .string ti, .slice aC_x0 lenC cC_x0, .slice aH_x0 lenH cH_x0] 29)) := (Below.refl _ _).alloc (Nat.le_refl _) _
  replace X_aS := Lib.hid (box_below X_aS.out hA (by omega))
  replace x_aS := box_cells X_aS.out
  replace X_w0 := Lib.hid (box_below X_w0.out hA (by omega))
  replace x_w0 := box_cells X_w0.out
  have X_x0 := Lib.hid (box_new w4 (.cells #[.int .i64 wd, .int .i64 ht, .int .i64 x, .int .i64 y, .int .i64 lk, .int .i64 tp, .int .i64 bt, .int .i64 sx, .int .i64 sy, .string ti, .slice aC_x0 lenC cC_x0, .slice aH_x0 lenH cH_x0] 29))
  have x_x0 := box_cells X_x0.out
  replace sC_w0 := sC_w0.below hA (by omega)
  replace sH_w0 := sH_w0.below hA (by omega)
  replace sC_x0 := sC_x0.below hA (by omega)
  replace sH_x0 := sH_x0.below hA (by omega)
  replace BB := BB.trans (hA.mono (by omega))
  clear hA
  have hc0 := BB.size
  go_wp2_with fail
  generalize hv : w4.alloc (.cells #[.int .i64 wd, .int .i64 ht, .int .i64 x, .int .i64 y, .int .i64 lk, .int .i64 tp, .int .i64 bt, .int .i64 sx, .int .i64 sy, .string ti, .slice aC_x0 lenC cC_x0, .slice aH_x0 lenH cH_x0] 29) = v2 at *
  have hs_v2 : v2.heap.size = w4.heap.size + 1 := by rw [← hv]; simp
  clear hv
  refine (implResizeScreen_any wd ht x y lk tp bt sx sy ti aC_x0 lenC cC_x0 cs aH_x0 lenH cH_x0 hs aw ah q1 q2 q3 q4 q5 q7 q8 q9 qt n rc lr rh cd _ hti sC_x0.at HLC.out hnc sH_x0.at HLH.out hnh HZ.out k_x0 HR.out).mono ?_
  rintro e w5 ⟨aC_g0, cC_g0, aH_g0, cH_g0, rfl, k_g0, ap_g0, hC, hH, hb⟩
  have hz5 : v2.heap.size ≤ w5.heap.size := hb.size
  replace X_aS := Lib.hid (box_below X_aS.out hb (by omega))
  replace x_aS := box_cells X_aS.out
  replace X_w0 := Lib.hid (box_below X_w0.out hb (by omega))
  replace x_w0 := box_cells X_w0.out
  replace X_x0 := Lib.hid (box_below X_x0.out hb (by omega))
  replace x_x0 := box_cells X_x0.out
  replace sC_w0 := sC_w0.below hb (by omega)
  replace sH_w0 := sH_w0.below hb (by omega)
  replace sC_x0 := sC_x0.below hb (by omega)
  replace sH_x0 := sH_x0.below hb (by omega)
  replace BB : Below w.heap.size w w5 := BB.trans (hb.mono (by omega))
  clear hb
  clear hc0
  have sC_g0 := Sl.of hC
  clear hC
  have sH_g0 := Sl.of hH
  clear hH
  have hA : Below w5.heap.size w5 (w5.alloc (.cells #[.int .i64 q1, .int .i64 q2, .int .i64 q3, .int .i64 q4, .int .i64 q5, .int .i64 0, .int .i64 q7, .int .i64 q8, .int .i64 q9, .string qt, .slice aC_g0 n cC_g0, .slice aH_g0 lr cH_g0] 29)) := (Below.refl _ _).alloc (Nat.le_refl _) _
  replace X_aS := Lib.hid (box_below X_aS.out hA (by omega))
  replace x_aS := box_cells X_aS.out
  replace X_w0 := Lib.hid (box_below X_w0.out hA (by omega))
  replace x_w0 := box_cells X_w0.out
  replace X_x0 := Lib.hid (box_below X_x0.out hA (by omega))
  replace x_x0 := box_cells X_x0.out
  have X_g0 := Lib.hid (box_new w5 (.cells #[.int .i64 q1, .int .i64 q2, .int .i64 q3, .int .i64 q4, .int .i64 q5, .int .i64 0, .int .i64 q7, .int .i64 q8, .int .i64 q9, .string qt, .slice aC_g0 n cC_g0, .slice aH_g0 lr cH_g0] 29))
  have x_g0 := box_cells X_g0.out
  replace sC_w0 := sC_w0.below hA (by omega)
  replace sH_w0 := sH_w0.below hA (by omega)
  replace sC_x0 := sC_x0.below hA (by omega)
  replace sH_x0 := sH_x0.below hA (by omega)
  replace sC_g0 := sC_g0.below hA (by omega)
  replace sH_g0 := sH_g0.below hA (by omega)
  replace BB := BB.trans (hA.mono (by omega))
  clear hA
  go_wp2_with fail
  generalize hv : w5.alloc (.cells #[.int .i64 q1, .int .i64 q2, .int .i64 q3, .int .i64 q4, .int .i64 q5, .int .i64 0, .int .i64 q7, .int .i64 q8, .int .i64 q9, .string qt, .slice aC_g0 n cC_g0, .slice aH_g0 lr cH_g0] 29) = v3 at *
  have hs_v3 : v3.heap.size = w5.heap.size + 1 := by rw [← hv]; simp
  clear hv
  refine (eqScreen_same q1 q2 q3 q4 q5 0 q7 q8 q9 qt aC_g0 aC_w0 n cC_g0 cC_w0 rc aH_g0 aH_w0 lr cH_g0 cH_w0 rh _ sC_g0.at sC_w0.at HRC.out (by omega) sH_g0.at sH_w0.at HRH.out (by unfold maxLen; omega)).mono ?_
  rintro e w6 ⟨rfl, hb⟩
  have hz6 : v3.heap.size ≤ w6.heap.size := hb.size
  replace X_aS := Lib.hid (box_below X_aS.out hb (by omega))
  replace x_aS := box_cells X_aS.out
  replace X_w0 := Lib.hid (box_below X_w0.out hb (by omega))
  replace x_w0 := box_cells X_w0.out
  replace X_x0 := Lib.hid (box_below X_x0.out hb (by omega))
  replace x_x0 := box_cells X_x0.out
  replace X_g0 := Lib.hid (box_below X_g0.out hb (by omega))
  replace x_g0 := box_cells X_g0.out
  replace sC_w0 := sC_w0.below hb (by omega)
  replace sH_w0 := sH_w0.below hb (by omega)
  replace sC_x0 := sC_x0.below hb (by omega)
  replace sH_x0 := sH_x0.below hb (by omega)
  replace sC_g0 := sC_g0.below hb (by omega)
  replace sH_g0 := sH_g0.below hb (by omega)
  replace BB : Below w.heap.size w w6 := BB.trans (hb.mono (by omega))
  clear hb
  go_wp2_with fail
  have sCd : Sl _ _ w6.drew aC_x0 (cellsV cs) := sC_x0
  have sHd : Sl _ _ w6.drew aH_x0 (strs hs) := sH_x0
  have xad : ∀ i, w6.drew.cell? ⟨w.heap.size, i, none⟩ = (#[.int .i64 wd, .int .i64 ht, .int .i64 x, .int .i64 y, .int .i64 lk, .int .i64 tp, .int .i64 bt, .int .i64 sx, .int .i64 sy, .string ti, .slice aC lenC capC, .slice aH lenH capH] : Array Value)[i]? := x_aS
  have xxd : ∀ i, w6.drew.cell? ⟨w4.heap.size, i, none⟩ = (#[.int .i64 wd, .int .i64 ht, .int .i64 x, .int .i64 y, .int .i64 lk, .int .i64 tp, .int .i64 bt, .int .i64 sx, .int .i64 sy, .string ti, .slice aC_x0 lenC cC_x0, .slice aH_x0 lenH cH_x0] : Array Value)[i]? := x_x0
  have la : w.heap.size < w6.heap.size := by omega
  have lx : w4.heap.size < w6.heap.size := by omega
  go_region_held3 (fun w' => (∀ i, w'.cell? ⟨w.heap.size, i, none⟩ = (#[.int .i64 wd, .int .i64 ht, .int .i64 x, .int .i64 y, .int .i64 lk, .int .i64 tp, .int .i64 bt, .int .i64 sx, .int .i64 sy, .string ti, .slice aC lenC capC, .slice aH lenH capH] : Array Value)[i]?) ∧ (∀ i, w'.cell? ⟨w4.heap.size, i, none⟩ = (#[.int .i64 wd, .int .i64 ht, .int .i64 x, .int .i64 y, .int .i64 lk, .int .i64 tp, .int .i64 bt, .int .i64 sx, .int .i64 sy, .string ti, .slice aC_x0 lenC cC_x0, .slice aH_x0 lenH cH_x0] : Array Value)[i]?)) (first | with_reducible exact ⟨yb, zb⟩ | with_reducible exact ⟨ya, za⟩ | exact ⟨xad, xxd⟩)
    (first
    | (go_at_call 6; refine (toScreen_any wd ht x y lk tp bt sx sy ti aC lenC capC cs aH lenH capH hs _ (hc.below BB.drew (Nat.le_refl _)) HLC.out f1 (hh.below BB.drew (Nat.le_refl _)) HLH.out (by omega)).mono ?_; rintro e wA ⟨aC_u, cC_u, aH_u, cH_u, rfl, k_u, ap_u, uC, uH, hbA0⟩; have hbA : Below w6.heap.size w6.drew wA := hbA0; have hzA : w6.heap.size ≤ wA.heap.size := hbA.size; have ya := cells_below xad hbA la; have za := cells_below xxd hbA lx; clear hbA0)
    | (go_at_call 8; refine (eqScreen_same wd ht x y lk tp bt sx sy ti aC_x0 aC_u lenC cC_x0 cC_u cs aH_x0 aH_u lenH cH_x0 cH_u hs _ (sCd.below hbA (by omega)).at uC.at HLC.out (by omega) (sHd.below hbA (by omega)).at uH.at HLH.out hnh).mono ?_; rintro e wB ⟨rfl, hbB⟩; have yb := cells_below ya hbB (by omega); have zb := cells_below za hbB (by omega))
    | fail)
  rename_i hh0
  clear hh0 sCd sHd xad xxd ya za yb zb uC uH
  have hzB : wA.heap.size ≤ wB.heap.size := hbB.size
  replace X_aS := Lib.hid (box_below (box_below (W := w6.drew) X_aS.out hbA (by omega)) hbB (by omega))
  replace x_aS := box_cells X_aS.out
  replace X_w0 := Lib.hid (box_below (box_below (W := w6.drew) X_w0.out hbA (by omega)) hbB (by omega))
  replace x_w0 := box_cells X_w0.out
  replace X_x0 := Lib.hid (box_below (box_below (W := w6.drew) X_x0.out hbA (by omega)) hbB (by omega))
  replace x_x0 := box_cells X_x0.out
  replace X_g0 := Lib.hid (box_below (box_below (W := w6.drew) X_g0.out hbA (by omega)) hbB (by omega))
  replace x_g0 := box_cells X_g0.out
  have sdr : Sl _ _ w6.drew _ _ := sC_w0
  replace sC_w0 := (sdr.below hbA (by omega)).below hbB (by omega)
  clear sdr
  have sdr : Sl _ _ w6.drew _ _ := sH_w0
  replace sH_w0 := (sdr.below hbA (by omega)).below hbB (by omega)
  clear sdr
  have sdr : Sl _ _ w6.drew _ _ := sC_x0
  replace sC_x0 := (sdr.below hbA (by omega)).below hbB (by omega)
  clear sdr
  have sdr : Sl _ _ w6.drew _ _ := sH_x0
  replace sH_x0 := (sdr.below hbA (by omega)).below hbB (by omega)
  clear sdr
  have sdr : Sl _ _ w6.drew _ _ := sC_g0
  replace sC_g0 := (sdr.below hbA (by omega)).below hbB (by omega)
  clear sdr
  have sdr : Sl _ _ w6.drew _ _ := sH_g0
  replace sH_g0 := (sdr.below hbA (by omega)).below hbB (by omega)
  clear sdr
  replace BB : Below w.heap.size w wB := (BB.drew.trans (hbA.mono (by omega))).trans (hbB.mono (by omega))
  clear hbA hbB
  go_wp2_with fail
  refine (markScreen_sl wd ht x y lk tp bt sx sy ti _ _ aC_x0 lenC cC_x0 cs aH_x0 lenH cH_x0 hs _ sC_x0 sH_x0 ap_x0 HLC.out HLH.out f1 f2 0 k2 HK.out (by omega) (by omega)).mono ?_
  rintro e w7 ⟨rfl, mC, mH, hg⟩
  have hb := hg.below
  have hz7 : wB.heap.size ≤ w7.heap.size := hb.size
  replace X_aS := Lib.hid (box_below X_aS.out hb (by omega))
  replace x_aS := box_cells X_aS.out
  replace X_w0 := Lib.hid (box_below X_w0.out hb (by omega))
  replace x_w0 := box_cells X_w0.out
  replace X_x0 := Lib.hid ((hg.above _ (by omega) (by omega)).trans X_x0.out)
  replace x_x0 := box_cells X_x0.out
  replace X_g0 := Lib.hid ((hg.above _ (by omega) (by omega)).trans X_g0.out)
  replace x_g0 := box_cells X_g0.out
  replace sC_w0 := sC_w0.below hb (by omega)
  replace sH_w0 := sH_w0.below hb (by omega)
  replace sC_g0 := sC_g0.above hg (by omega)
  replace sH_g0 := sH_g0.above hg (by omega)
  replace BB : Below w.heap.size w w7 := BB.trans (hb.mono (by omega))
  clear hb hg
  replace sC_x0 := mC
  replace sH_x0 := mH
  go_wp2_with fail
  refine (eqScreen_same q1 q2 q3 q4 q5 0 q7 q8 q9 qt aC_g0 aC_w0 n cC_g0 cC_w0 rc aH_g0 aH_w0 lr cH_g0 cH_w0 rh _ sC_g0.at sC_w0.at HRC.out (by omega) sH_g0.at sH_w0.at HRH.out (by unfold maxLen; omega)).mono ?_
  rintro e w8 ⟨rfl, hb⟩
  have hz8 : w7.heap.size ≤ w8.heap.size := hb.size
  replace X_aS := Lib.hid (box_below X_aS.out hb (by omega))
  replace x_aS := box_cells X_aS.out
  replace X_w0 := Lib.hid (box_below X_w0.out hb (by omega))
  replace x_w0 := box_cells X_w0.out
  replace X_x0 := Lib.hid (box_below X_x0.out hb (by omega))
  replace x_x0 := box_cells X_x0.out
  replace X_g0 := Lib.hid (box_below X_g0.out hb (by omega))
  replace x_g0 := box_cells X_g0.out
  replace sC_w0 := sC_w0.below hb (by omega)
  replace sH_w0 := sH_w0.below hb (by omega)
  replace sC_x0 := sC_x0.below hb (by omega)
  replace sH_x0 := sH_x0.below hb (by omega)
  replace sC_g0 := sC_g0.below hb (by omega)
  replace sH_g0 := sH_g0.below hb (by omega)
  replace BB : Below w.heap.size w w8 := BB.trans (hb.mono (by omega))
  clear hb
  go_wp2_with fail
  refine (markScreen_sl q1 q2 q3 q4 q5 0 q7 q8 q9 qt _ _ aC_g0 n cC_g0 rc aH_g0 lr cH_g0 rh _ sC_g0 sH_g0 ap_g0 HRC.out HRH.out (by omega) (by omega) 0 k3 HK3.out (by omega) (by omega)).mono ?_
  rintro e w9 ⟨rfl, mC, mH, hg⟩
  have hb := hg.below
  have hz9 : w8.heap.size ≤ w9.heap.size := hb.size
  replace X_aS := Lib.hid (box_below X_aS.out hb (by omega))
  replace x_aS := box_cells X_aS.out
  replace X_w0 := Lib.hid (box_below X_w0.out hb (by omega))
  replace x_w0 := box_cells X_w0.out
  replace X_x0 := Lib.hid (box_below X_x0.out hb (by omega))
  replace x_x0 := box_cells X_x0.out
  replace X_g0 := Lib.hid ((hg.above _ (by omega) (by omega)).trans X_g0.out)
  replace x_g0 := box_cells X_g0.out
  replace sC_w0 := sC_w0.below hb (by omega)
  replace sH_w0 := sH_w0.below hb (by omega)
  replace sC_x0 := sC_x0.below hb (by omega)
  replace sH_x0 := sH_x0.below hb (by omega)
  replace BB : Below w.heap.size w w9 := BB.trans (hb.mono (by omega))
  clear hb hg
  replace sC_g0 := mC
  replace sH_g0 := mH
  go_wp2_with fail
  refine (heldScreen_any q1 q2 q3 q4 q5 0 q7 q8 q9 qt aC_g0 n cC_g0 aH_g0 lr cH_g0 _ sC_g0.at sH_g0.at (by omega) (by omega) k3 HK3.out).mono ?_
  rintro e w10 ⟨rfl, hb⟩
  have hz10 : w9.heap.size ≤ w10.heap.size := hb.size
  replace X_aS := Lib.hid (box_below X_aS.out hb (by omega))
  replace x_aS := box_cells X_aS.out
  replace X_w0 := Lib.hid (box_below X_w0.out hb (by omega))
  replace x_w0 := box_cells X_w0.out
  replace X_x0 := Lib.hid (box_below X_x0.out hb (by omega))
  replace x_x0 := box_cells X_x0.out
  replace X_g0 := Lib.hid (box_below X_g0.out hb (by omega))
  replace x_g0 := box_cells X_g0.out
  replace sC_w0 := sC_w0.below hb (by omega)
  replace sH_w0 := sH_w0.below hb (by omega)
  replace sC_x0 := sC_x0.below hb (by omega)
  replace sH_x0 := sH_x0.below hb (by omega)
  replace sC_g0 := sC_g0.below hb (by omega)
  replace sH_g0 := sH_g0.below hb (by omega)
  replace BB : Below w.heap.size w w10 := BB.trans (hb.mono (by omega))
  clear hb
  have hc0 := BB.size
  go_wp2_with fail
  refine (toScreen_any wd ht x y lk tp bt sx sy ti aC lenC capC cs aH lenH capH hs _ (hc.below BB (Nat.le_refl _)) HLC.out f1 (hh.below BB (Nat.le_refl _)) HLH.out (by omega)).mono ?_
  rintro e w11 ⟨aC_t3, cC_t3, aH_t3, cH_t3, rfl, k_t3, ap_t3, hC, hH, hb⟩
  have hz11 : w10.heap.size ≤ w11.heap.size := hb.size
  replace X_aS := Lib.hid (box_below X_aS.out hb (by omega))
  replace x_aS := box_cells X_aS.out
  replace X_w0 := Lib.hid (box_below X_w0.out hb (by omega))
  replace x_w0 := box_cells X_w0.out
  replace X_x0 := Lib.hid (box_below X_x0.out hb (by omega))
  replace x_x0 := box_cells X_x0.out
  replace X_g0 := Lib.hid (box_below X_g0.out hb (by omega))
  replace x_g0 := box_cells X_g0.out
  replace sC_w0 := sC_w0.below hb (by omega)
  replace sH_w0 := sH_w0.below hb (by omega)
  replace sC_x0 := sC_x0.below hb (by omega)
  replace sH_x0 := sH_x0.below hb (by omega)
  replace sC_g0 := sC_g0.below hb (by omega)
  replace sH_g0 := sH_g0.below hb (by omega)
  replace BB : Below w.heap.size w w11 := BB.trans (hb.mono (by omega))
  clear hb
  clear hc0
  have sC_t3 := Sl.of hC
  clear hC
  have sH_t3 := Sl.of hH
  clear hH
  have hc0 := BB.size
  go_wp2_with fail
  refine (implResizeScreen_any wd ht x y lk tp bt sx sy ti aC_t3 lenC cC_t3 cs aH_t3 lenH cH_t3 hs aw ah q1 q2 q3 q4 q5 q7 q8 q9 qt n rc lr rh cd _ hti sC_t3.at HLC.out hnc sH_t3.at HLH.out hnh HZ.out k_t3 HR.out).mono ?_
  rintro e w12 ⟨aC_h0, cC_h0, aH_h0, cH_h0, rfl, k_h0, ap_h0, hC, hH, hb⟩
  have hz12 : w11.heap.size ≤ w12.heap.size := hb.size
  replace X_aS := Lib.hid (box_below X_aS.out hb (by omega))
  replace x_aS := box_cells X_aS.out
  replace X_w0 := Lib.hid (box_below X_w0.out hb (by omega))
  replace x_w0 := box_cells X_w0.out
  replace X_x0 := Lib.hid (box_below X_x0.out hb (by omega))
  replace x_x0 := box_cells X_x0.out
  replace X_g0 := Lib.hid (box_below X_g0.out hb (by omega))
  replace x_g0 := box_cells X_g0.out
  replace sC_w0 := sC_w0.below hb (by omega)
  replace sH_w0 := sH_w0.below hb (by omega)
  replace sC_x0 := sC_x0.below hb (by omega)
  replace sH_x0 := sH_x0.below hb (by omega)
  replace sC_g0 := sC_g0.below hb (by omega)
  replace sH_g0 := sH_g0.below hb (by omega)
  replace sC_t3 := sC_t3.below hb (by omega)
  replace sH_t3 := sH_t3.below hb (by omega)
  replace BB : Below w.heap.size w w12 := BB.trans (hb.mono (by omega))
  clear hb
  clear hc0
  have sC_h0 := Sl.of hC
  clear hC
  have sH_h0 := Sl.of hH
  clear hH
  clear sC_t3 sH_t3
  have hA : Below w12.heap.size w12 (w12.alloc (.cells #[.int .i64 q1, .int .i64 q2, .int .i64 q3, .int .i64 q4, .int .i64 q5, .int .i64 0, .int .i64 q7, .int .i64 q8, .int .i64 q9, .string qt, .slice aC_h0 n cC_h0, .slice aH_h0 lr cH_h0] 29)) := (Below.refl _ _).alloc (Nat.le_refl _) _
  replace X_aS := Lib.hid (box_below X_aS.out hA (by omega))
  replace x_aS := box_cells X_aS.out
  replace X_w0 := Lib.hid (box_below X_w0.out hA (by omega))
  replace x_w0 := box_cells X_w0.out
  replace X_x0 := Lib.hid (box_below X_x0.out hA (by omega))
  replace x_x0 := box_cells X_x0.out
  replace X_g0 := Lib.hid (box_below X_g0.out hA (by omega))
  replace x_g0 := box_cells X_g0.out
  have X_h0 := Lib.hid (box_new w12 (.cells #[.int .i64 q1, .int .i64 q2, .int .i64 q3, .int .i64 q4, .int .i64 q5, .int .i64 0, .int .i64 q7, .int .i64 q8, .int .i64 q9, .string qt, .slice aC_h0 n cC_h0, .slice aH_h0 lr cH_h0] 29))
  have x_h0 := box_cells X_h0.out
  replace sC_w0 := sC_w0.below hA (by omega)
  replace sH_w0 := sH_w0.below hA (by omega)
  replace sC_x0 := sC_x0.below hA (by omega)
  replace sH_x0 := sH_x0.below hA (by omega)
  replace sC_g0 := sC_g0.below hA (by omega)
  replace sH_g0 := sH_g0.below hA (by omega)
  replace sC_h0 := sC_h0.below hA (by omega)
  replace sH_h0 := sH_h0.below hA (by omega)
  replace BB := BB.trans (hA.mono (by omega))
  clear hA
  go_wp2_with fail
  generalize hv : w12.alloc (.cells #[.int .i64 q1, .int .i64 q2, .int .i64 q3, .int .i64 q4, .int .i64 q5, .int .i64 0, .int .i64 q7, .int .i64 q8, .int .i64 q9, .string qt, .slice aC_h0 n cC_h0, .slice aH_h0 lr cH_h0] 29) = v4 at *
  have hs_v4 : v4.heap.size = w12.heap.size + 1 := by rw [← hv]; simp
  clear hv
  refine (eqScreen_same q1 q2 q3 q4 q5 0 q7 q8 q9 qt aC_h0 aC_w0 n cC_h0 cC_w0 rc aH_h0 aH_w0 lr cH_h0 cH_w0 rh _ sC_h0.at sC_w0.at HRC.out (by omega) sH_h0.at sH_w0.at HRH.out (by unfold maxLen; omega)).mono ?_
  rintro e w13 ⟨rfl, hb⟩
  have hz13 : v4.heap.size ≤ w13.heap.size := hb.size
  replace X_aS := Lib.hid (box_below X_aS.out hb (by omega))
  replace x_aS := box_cells X_aS.out
  replace X_w0 := Lib.hid (box_below X_w0.out hb (by omega))
  replace x_w0 := box_cells X_w0.out
  replace X_x0 := Lib.hid (box_below X_x0.out hb (by omega))
  replace x_x0 := box_cells X_x0.out
  replace X_g0 := Lib.hid (box_below X_g0.out hb (by omega))
  replace x_g0 := box_cells X_g0.out
  replace X_h0 := Lib.hid (box_below X_h0.out hb (by omega))
  replace x_h0 := box_cells X_h0.out
  replace sC_w0 := sC_w0.below hb (by omega)
  replace sH_w0 := sH_w0.below hb (by omega)
  replace sC_x0 := sC_x0.below hb (by omega)
  replace sH_x0 := sH_x0.below hb (by omega)
  replace sC_g0 := sC_g0.below hb (by omega)
  replace sH_g0 := sH_g0.below hb (by omega)
  replace sC_h0 := sC_h0.below hb (by omega)
  replace sH_h0 := sH_h0.below hb (by omega)
  replace BB : Below w.heap.size w w13 := BB.trans (hb.mono (by omega))
  clear hb
  go_wp2_with fail
  refine (heldScreen_any q1 q2 q3 q4 q5 0 q7 q8 q9 qt aC_g0 n cC_g0 aH_g0 lr cH_g0 _ sC_g0.at sH_g0.at (by omega) (by omega) k3 HK3.out).mono ?_
  rintro e w14 ⟨rfl, hb⟩
  have hz14 : w13.heap.size ≤ w14.heap.size := hb.size
  replace X_aS := Lib.hid (box_below X_aS.out hb (by omega))
  replace x_aS := box_cells X_aS.out
  replace X_w0 := Lib.hid (box_below X_w0.out hb (by omega))
  replace x_w0 := box_cells X_w0.out
  replace X_x0 := Lib.hid (box_below X_x0.out hb (by omega))
  replace x_x0 := box_cells X_x0.out
  replace X_g0 := Lib.hid (box_below X_g0.out hb (by omega))
  replace x_g0 := box_cells X_g0.out
  replace X_h0 := Lib.hid (box_below X_h0.out hb (by omega))
  replace x_h0 := box_cells X_h0.out
  replace sC_w0 := sC_w0.below hb (by omega)
  replace sH_w0 := sH_w0.below hb (by omega)
  replace sC_x0 := sC_x0.below hb (by omega)
  replace sH_x0 := sH_x0.below hb (by omega)
  replace sC_g0 := sC_g0.below hb (by omega)
  replace sH_g0 := sH_g0.below hb (by omega)
  replace sC_h0 := sC_h0.below hb (by omega)
  replace sH_h0 := sH_h0.below hb (by omega)
  replace BB : Below w.heap.size w w14 := BB.trans (hb.mono (by omega))
  clear hb
  go_wp2_with fail
  go_ret
  exact ⟨rfl, BB⟩
end Go.Proofs.Ytfdodbkopbmjeaa
