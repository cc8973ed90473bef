/-
  The walk of the law FnExactSameScreen of the given program. No condition.
-/
import Derived.Test.YtfabclhcceooaaaSame
import Derived.Test.YtfabclhcceooaaaScrMark
import Derived.Test.YtfabclhcceooaaaSzUp
import Derived.Test.YtfabclhcceooaaaAggCell
import Derived.Deep.RegionHeld3
namespace Go.Proofs.Ytfabclhcceooaaa
open Go.ChangeShapes Go.WideShapes Go.ChangeAt Go.RowKit
set_option linter.unusedVariables false
set_option linter.unusedSimpArgs false
attribute [local irreducible] wpList

set_option maxHeartbeats 8000000 in
set_option maxRecDepth 100000 in
theorem walk_FnExactSameScreen (w : World) (wd : Int) (_ : (Lit.int .i64 wd).wf = true) (ht : Int) (_ : (Lit.int .i64 ht).wf = true) (x : Int) (_ : (Lit.int .i64 x).wf = true) (y : Int) (_ : (Lit.int .i64 y).wf = true) (lk : Int) (_ : (Lit.int .i64 lk).wf = true) (tp : Int) (_ : (Lit.int .i64 tp).wf = true) (bt : Int) (_ : (Lit.int .i64 bt).wf = true) (sx : Int) (_ : (Lit.int .i64 sx).wf = true) (sy : Int) (_ : (Lit.int .i64 sy).wf = true) (ti : ByteArray) (hti : ti.size ≤ maxLen) (aC : Option Addr) (lenC capC : Nat) (cs : List (Int × Int)) (hc : At w aC (cellsV cs)) (hlc : cs.length = lenC) (hnc : lenC ≤ maxLen) (hcc : lenC ≤ capC) (aH : Option Addr) (lenH capH : Nat) (hs : List ByteArray) (hh : At w aH (strs hs)) (hlh : hs.length = lenH) (hnh : lenH ≤ maxLen) (hz : ∀ s ∈ hs, s.size ≤ maxLen) (wdq : Int) (_ : (Lit.int .i64 wdq).wf = true) (htq : Int) (_ : (Lit.int .i64 htq).wf = true) (xq : Int) (_ : (Lit.int .i64 xq).wf = true) (yq : Int) (_ : (Lit.int .i64 yq).wf = true) (lkq : Int) (_ : (Lit.int .i64 lkq).wf = true) (tpq : Int) (_ : (Lit.int .i64 tpq).wf = true) (btq : Int) (_ : (Lit.int .i64 btq).wf = true) (sxq : Int) (_ : (Lit.int .i64 sxq).wf = true) (syq : Int) (_ : (Lit.int .i64 syq).wf = true) (tiq : ByteArray) (htiq : tiq.size ≤ maxLen) (aCq : Option Addr) (lenCq capCq : Nat) (csq : List (Int × Int)) (hcq : At w aCq (cellsV csq)) (hlcq : csq.length = lenCq) (hncq : lenCq ≤ maxLen) (hccq : lenCq ≤ capCq) (aHq : Option Addr) (lenHq capHq : Nat) (hsq : List ByteArray) (hhq : At w aHq (strs hsq)) (hlhq : hsq.length = lenHq) (hnhq : lenHq ≤ maxLen) (hzq : ∀ s ∈ hsq, s.size ≤ maxLen) :
    Calls Try.prog 8 #[.agg #[.int .i64 wd, .int .i64 ht, .int .i64 x, .int .i64 y, .int .i64 lk, .int .i64 tp, .int .i64 bt, .int .i64 sx, .int .i64 sy, .string ti, .slice aC lenC capC, .slice aH lenH capH], .agg #[.int .i64 wdq, .int .i64 htq, .int .i64 xq, .int .i64 yq, .int .i64 lkq, .int .i64 tpq, .int .i64 btq, .int .i64 sxq, .int .i64 syq, .string tiq, .slice aCq lenCq capCq, .slice aHq lenHq capHq]] w fun e w' => e = .returned (.bool true) ∧ Below w.heap.size w w' := by
  have HLC := Lib.hid hlc
  have HLH := Lib.hid hlh
  have HZ := Lib.hid hz
  have HLCq := Lib.hid hlcq
  have HLHq := Lib.hid hlhq
  have HZq := Lib.hid hzq
  obtain ⟨r1, hr1⟩ : ∃ r, scrB wd ht x y lk tp bt sx sy ti cs hs = r := ⟨_, rfl⟩
  obtain ⟨r2, hr2⟩ : ∃ r, scrB wdq htq xq yq lkq tpq btq sxq syq tiq csq hsq = r := ⟨_, rfl⟩
  obtain ⟨l1, hl1⟩ : ∃ l, scrL wd ht x y lk tp bt sx sy ti cs hs = l := ⟨_, rfl⟩
  obtain ⟨l2, hl2⟩ : ∃ l, scrL wdq htq xq yq lkq tpq btq sxq syq tiq csq hsq = l := ⟨_, rfl⟩
  obtain ⟨r, cd, hR⟩ : ∃ r cd, sameR r1 r2 l1 l2 = (r, cd) := ⟨_, _, rfl⟩
  have HR1 := Lib.hid hr1
  have HR2 := Lib.hid hr2
  have HL1 := Lib.hid hl1
  have HL2 := Lib.hid hl2
  have HR := Lib.hid hR
  clear hlc hlh hz hlcq hlhq hzq hr1 hr2 hl1 hl2 hR
  go_enter Try.func8, Try.ntmps8
  have BB : Below w.heap.size w w := Below.refl _ _
  have hA : Below w.heap.size w (w.alloc (.cells #[.int .i64 wd, .int .i64 ht, .int .i64 x, .int .i64 y, .int .i64 lk, .int .i64 tp, .int .i64 bt, .int .i64 sx, .int .i64 sy, .string ti, .slice aC lenC capC, .slice aH lenH capH] 37)) := (Below.refl _ _).alloc (Nat.le_refl _) _
  have X_aS := Lib.hid (box_new w (.cells #[.int .i64 wd, .int .i64 ht, .int .i64 x, .int .i64 y, .int .i64 lk, .int .i64 tp, .int .i64 bt, .int .i64 sx, .int .i64 sy, .string ti, .slice aC lenC capC, .slice aH lenH capH] 37))
  have x_aS := box_cells X_aS.out
  replace BB := BB.trans (hA.mono (by omega))
  clear hA
  have hA : Below (w.alloc (.cells #[.int .i64 wd, .int .i64 ht, .int .i64 x, .int .i64 y, .int .i64 lk, .int .i64 tp, .int .i64 bt, .int .i64 sx, .int .i64 sy, .string ti, .slice aC lenC capC, .slice aH lenH capH] 37)).heap.size (w.alloc (.cells #[.int .i64 wd, .int .i64 ht, .int .i64 x, .int .i64 y, .int .i64 lk, .int .i64 tp, .int .i64 bt, .int .i64 sx, .int .i64 sy, .string ti, .slice aC lenC capC, .slice aH lenH capH] 37)) ((w.alloc (.cells #[.int .i64 wd, .int .i64 ht, .int .i64 x, .int .i64 y, .int .i64 lk, .int .i64 tp, .int .i64 bt, .int .i64 sx, .int .i64 sy, .string ti, .slice aC lenC capC, .slice aH lenH capH] 37)).alloc (.cells #[.int .i64 wdq, .int .i64 htq, .int .i64 xq, .int .i64 yq, .int .i64 lkq, .int .i64 tpq, .int .i64 btq, .int .i64 sxq, .int .i64 syq, .string tiq, .slice aCq lenCq capCq, .slice aHq lenHq capHq] 37)) := (Below.refl _ _).alloc (Nat.le_refl _) _
  replace X_aS := Lib.hid (box_below X_aS.out hA (by simp))
  replace x_aS := box_cells X_aS.out
  have X_aT : Hid (((w.alloc (.cells #[.int .i64 wd, .int .i64 ht, .int .i64 x, .int .i64 y, .int .i64 lk, .int .i64 tp, .int .i64 bt, .int .i64 sx, .int .i64 sy, .string ti, .slice aC lenC capC, .slice aH lenH capH] 37)).alloc (.cells #[.int .i64 wdq, .int .i64 htq, .int .i64 xq, .int .i64 yq, .int .i64 lkq, .int .i64 tpq, .int .i64 btq, .int .i64 sxq, .int .i64 syq, .string tiq, .slice aCq lenCq capCq, .slice aHq lenHq capHq] 37)).heap[w.heap.size + 1]? = some (.cells #[.int .i64 wdq, .int .i64 htq, .int .i64 xq, .int .i64 yq, .int .i64 lkq, .int .i64 tpq, .int .i64 btq, .int .i64 sxq, .int .i64 syq, .string tiq, .slice aCq lenCq capCq, .slice aHq lenHq capHq] 37)) := by have h := box_new (w.alloc (.cells #[.int .i64 wd, .int .i64 ht, .int .i64 x, .int .i64 y, .int .i64 lk, .int .i64 tp, .int .i64 bt, .int .i64 sx, .int .i64 sy, .string ti, .slice aC lenC capC, .slice aH lenH capH] 37)) (.cells #[.int .i64 wdq, .int .i64 htq, .int .i64 xq, .int .i64 yq, .int .i64 lkq, .int .i64 tpq, .int .i64 btq, .int .i64 sxq, .int .i64 syq, .string tiq, .slice aCq lenCq capCq, .slice aHq lenHq capHq] 37); have e : (w.alloc (.cells #[.int .i64 wd, .int .i64 ht, .int .i64 x, .int .i64 y, .int .i64 lk, .int .i64 tp, .int .i64 bt, .int .i64 sx, .int .i64 sy, .string ti, .slice aC lenC capC, .slice aH lenH capH] 37)).heap.size = w.heap.size + 1 := (by simp); rw [e] at h; exact h
  have x_aT := box_cells X_aT.out
  replace BB := BB.trans (hA.mono (by simp))
  clear hA
  go_wp2_with fail
  generalize hv : (w.alloc (.cells #[.int .i64 wd, .int .i64 ht, .int .i64 x, .int .i64 y, .int .i64 lk, .int .i64 tp, .int .i64 bt, .int .i64 sx, .int .i64 sy, .string ti, .slice aC lenC capC, .slice aH lenH capH] 37)).alloc (.cells #[.int .i64 wdq, .int .i64 htq, .int .i64 xq, .int .i64 yq, .int .i64 lkq, .int .i64 tpq, .int .i64 btq, .int .i64 sxq, .int .i64 syq, .string tiq, .slice aCq lenCq capCq, .slice aHq lenHq capHq] 37) = v0 at *
  have hs_v0 : v0.heap.size = w.heap.size + 2 := by rw [← hv]; simp
  clear hv
  refine (szScreen_upto wd ht x y lk tp bt sx sy ti aC lenC capC aH lenH capH hs 1048576 _ (by omega) hti hnc (hh.below BB (Nat.le_refl _)) HLH.out hnh HZ.out).mono ?_
  rintro e w1 ⟨r1, rfl, hr, hr1, hr2, hb⟩
  have hz1 : v0.heap.size ≤ w1.heap.size := hb.size
  replace X_aS := Lib.hid (box_below X_aS.out hb (by omega))
  replace x_aS := box_cells X_aS.out
  replace X_aT := Lib.hid (box_below X_aT.out hb (by omega))
  replace x_aT := box_cells X_aT.out
  replace BB : Below w.heap.size w w1 := BB.trans (hb.mono (by omega))
  clear hb
  by_cases hneg1 : r1 < 0
  · clear hr
    go_wp2
    go_ret
    exact ⟨rfl, BB⟩
  obtain ⟨f1, f2, f3⟩ := hr (by omega)
  clear hr
  obtain ⟨q1, rfl⟩ : ∃ q : Nat, r1 = (q : Int) := ⟨r1.toNat, by omega⟩
  go_wp2_with fail
  refine (szScreen_upto wdq htq xq yq lkq tpq btq sxq syq tiq aCq lenCq capCq aHq lenHq capHq hsq q1 _ (by omega) htiq hncq (hhq.below BB (Nat.le_refl _)) HLHq.out hnhq HZq.out).mono ?_
  rintro e w2 ⟨rq, rfl, hr, hr1, hr2, hb⟩
  have hz2 : w1.heap.size ≤ w2.heap.size := hb.size
  replace X_aS := Lib.hid (box_below X_aS.out hb (by omega))
  replace x_aS := box_cells X_aS.out
  replace X_aT := Lib.hid (box_below X_aT.out hb (by omega))
  replace x_aT := box_cells X_aT.out
  replace BB : Below w.heap.size w w2 := BB.trans (hb.mono (by omega))
  clear hb
  by_cases hnegq : rq < 0
  · clear hr
    go_wp2
    go_ret
    exact ⟨rfl, BB⟩
  obtain ⟨f1q, f2q, f3q⟩ := hr (by omega)
  clear hr
  obtain ⟨qq, rfl⟩ : ∃ q : Nat, rq = (q : Int) := ⟨rq.toNat, by omega⟩
  go_wp2_with fail
  have xad : ∀ i, w2.drew.cell? ⟨w.heap.size, i, none⟩ = (#[.int .i64 wd, .int .i64 ht, .int .i64 x, .int .i64 y, .int .i64 lk, .int .i64 tp, .int .i64 bt, .int .i64 sx, .int .i64 sy, .string ti, .slice aC lenC capC, .slice aH lenH capH] : Array Value)[i]? := x_aS
  have xbd : ∀ i, w2.drew.cell? ⟨(w.heap.size + 1), i, none⟩ = (#[.int .i64 wdq, .int .i64 htq, .int .i64 xq, .int .i64 yq, .int .i64 lkq, .int .i64 tpq, .int .i64 btq, .int .i64 sxq, .int .i64 syq, .string tiq, .slice aCq lenCq capCq, .slice aHq lenHq capHq] : Array Value)[i]? := x_aT
  have la : w.heap.size < w2.heap.size := by omega
  have lb : (w.heap.size + 1) < w2.heap.size := by omega
  go_region_held3 (fun w' => (∀ i, w'.cell? ⟨w.heap.size, i, none⟩ = (#[.int .i64 wd, .int .i64 ht, .int .i64 x, .int .i64 y, .int .i64 lk, .int .i64 tp, .int .i64 bt, .int .i64 sx, .int .i64 sy, .string ti, .slice aC lenC capC, .slice aH lenH capH] : Array Value)[i]?) ∧ (∀ i, w'.cell? ⟨(w.heap.size + 1), i, none⟩ = (#[.int .i64 wdq, .int .i64 htq, .int .i64 xq, .int .i64 yq, .int .i64 lkq, .int .i64 tpq, .int .i64 btq, .int .i64 sxq, .int .i64 syq, .string tiq, .slice aCq lenCq capCq, .slice aHq lenHq capHq] : Array Value)[i]?)) (first | with_reducible exact ⟨yc, zc⟩ | with_reducible exact ⟨yb, zb⟩ | with_reducible exact ⟨ya, za⟩ | exact ⟨xad, xbd⟩)
    (first
    | (have _nd := hbB; go_at_call 30; refine (specSameScreen_any wd ht x y lk tp bt sx sy ti aC_u lenC cC_u cs aH_u lenH cH_u hs wdq htq xq yq lkq tpq btq sxq syq tiq aC_v lenCq cC_v csq aH_v lenHq cH_v hsq r1 r2 l1 l2 r cd _ hti (uC.at.below hbB (Nat.le_refl _)) HLC.out hnc (uH.at.below hbB (Nat.le_refl _)) HLH.out hnh HZ.out k_u htiq vC.at HLCq.out hncq vH.at HLHq.out hnhq HZq.out k_v HR1.out HR2.out HL1.out HL2.out HR.out).mono ?_; rintro e wC_99 ⟨rfl, hbC⟩; have hzC_99 := hbC.size; have yc := cells_below yb hbC (by omega); have zc := cells_below zb hbC (by omega))
    | (have _nd := hbA; go_at_call 21; refine (toScreen_any wdq htq xq yq lkq tpq btq sxq syq tiq aCq lenCq capCq csq aHq lenHq capHq hsq _ (hcq.below BA (Nat.le_refl _)) HLCq.out f1q (hhq.below BA (Nat.le_refl _)) HLHq.out (by omega)).mono ?_; rintro e wB_99 ⟨aC_v, cC_v, aH_v, cH_v, rfl, k_v, ap_v, vC, vH, hbB⟩; have hzB_99 : wA_99.heap.size ≤ wB_99.heap.size := hbB.size; have yb := cells_below ya hbB (by omega); have zb := cells_below za hbB (by omega))
    | (go_at_call 21; refine (toScreen_any wd ht x y lk tp bt sx sy ti aC lenC capC cs aH lenH capH hs _ (hc.below BB.drew (Nat.le_refl _)) HLC.out f1 (hh.below BB.drew (Nat.le_refl _)) HLH.out (by omega)).mono ?_; rintro e wA_99 ⟨aC_u, cC_u, aH_u, cH_u, rfl, k_u, ap_u, uC, uH, hbA0⟩; have hbA : Below w2.heap.size w2.drew wA_99 := hbA0; have hzA_99 : w2.heap.size ≤ wA_99.heap.size := hbA.size; have ya := cells_below xad hbA la; have za := cells_below xbd hbA lb; have BA : Below w.heap.size w wA_99 := BB.drew.trans (hbA.mono (by omega)); clear hbA0)
    | fail)
  rename_i hh0
  clear hh0 xad xbd ya za yb zb yc zc uC uH vC vH
  replace X_aS := Lib.hid (box_below (box_below (box_below (W := w2.drew) X_aS.out hbA (by omega)) hbB (by omega)) hbC (by omega))
  replace x_aS := box_cells X_aS.out
  replace X_aT := Lib.hid (box_below (box_below (box_below (W := w2.drew) X_aT.out hbA (by omega)) hbB (by omega)) hbC (by omega))
  replace x_aT := box_cells X_aT.out
  replace BB : Below w.heap.size w wC_99 := (BA.trans (hbB.mono (by omega))).trans (hbC.mono (by omega))
  clear hbA hbB hbC BA
  have hc0 := BB.size
  go_wp2_with fail
  refine (toScreen_any wd ht x y lk tp bt sx sy ti aC lenC capC cs aH lenH capH hs _ (hc.below BB (Nat.le_refl _)) HLC.out f1 (hh.below BB (Nat.le_refl _)) HLH.out (by omega)).mono ?_
  rintro e w3 ⟨aC_x0, cC_x0, aH_x0, cH_x0, rfl, k_x0, ap_x0, hC, hH, hb⟩
  have hz3 : wC_99.heap.size ≤ w3.heap.size := hb.size
  replace X_aS := Lib.hid (box_below X_aS.out hb (by omega))
  replace x_aS := box_cells X_aS.out
  replace X_aT := Lib.hid (box_below X_aT.out hb (by omega))
  replace x_aT := box_cells X_aT.out
  replace BB : Below w.heap.size w w3 := BB.trans (hb.mono (by omega))
  clear hb
  clear hc0
  have sC_x0 := Sl.of hC
  clear hC
  have sH_x0 := Sl.of hH
  clear hH
  have hA : Below w3.heap.size w3 (w3.alloc (.cells #[.int .i64 wd, .int .i64 ht, .int .i64 x, .int .i64 y, .int .i64 lk, .int .i64 tp, .int .i64 bt, .int .i64 sx, .int .i64 sy, .string ti, .slice aC_x0 lenC cC_x0, .slice aH_x0 lenH cH_x0] 42)) := (Below.refl _ _).alloc (Nat.le_refl _) _
  replace X_aS := Lib.hid (box_below X_aS.out hA (by omega))
  replace x_aS := box_cells X_aS.out
  replace X_aT := Lib.hid (box_below X_aT.out hA (by omega))
  replace x_aT := box_cells X_aT.out
  have X_x0 := Lib.hid (box_new w3 (.cells #[.int .i64 wd, .int .i64 ht, .int .i64 x, .int .i64 y, .int .i64 lk, .int .i64 tp, .int .i64 bt, .int .i64 sx, .int .i64 sy, .string ti, .slice aC_x0 lenC cC_x0, .slice aH_x0 lenH cH_x0] 42))
  have x_x0 := box_cells X_x0.out
  replace sC_x0 := sC_x0.below hA (by omega)
  replace sH_x0 := sH_x0.below hA (by omega)
  replace BB := BB.trans (hA.mono (by omega))
  clear hA
  have hc0 := BB.size
  go_wp2_with fail
  generalize hv : w3.alloc (.cells #[.int .i64 wd, .int .i64 ht, .int .i64 x, .int .i64 y, .int .i64 lk, .int .i64 tp, .int .i64 bt, .int .i64 sx, .int .i64 sy, .string ti, .slice aC_x0 lenC cC_x0, .slice aH_x0 lenH cH_x0] 42) = v1 at *
  have hs_v1 : v1.heap.size = w3.heap.size + 1 := by rw [← hv]; simp
  clear hv
  refine (toScreen_any wdq htq xq yq lkq tpq btq sxq syq tiq aCq lenCq capCq csq aHq lenHq capHq hsq _ (hcq.below BB (Nat.le_refl _)) HLCq.out f1q (hhq.below BB (Nat.le_refl _)) HLHq.out (by omega)).mono ?_
  rintro e w4 ⟨aC_x1, cC_x1, aH_x1, cH_x1, rfl, k_x1, ap_x1, hC, hH, hb⟩
  have hz4 : v1.heap.size ≤ w4.heap.size := hb.size
  replace X_aS := Lib.hid (box_below X_aS.out hb (by omega))
  replace x_aS := box_cells X_aS.out
  replace X_aT := Lib.hid (box_below X_aT.out hb (by omega))
  replace x_aT := box_cells X_aT.out
  replace X_x0 := Lib.hid (box_below X_x0.out hb (by omega))
  replace x_x0 := box_cells X_x0.out
  replace sC_x0 := sC_x0.below hb (by omega)
  replace sH_x0 := sH_x0.below hb (by omega)
  replace BB : Below w.heap.size w w4 := BB.trans (hb.mono (by omega))
  clear hb
  clear hc0
  have sC_x1 := Sl.of hC
  clear hC
  have sH_x1 := Sl.of hH
  clear hH
  have hA : Below w4.heap.size w4 (w4.alloc (.cells #[.int .i64 wdq, .int .i64 htq, .int .i64 xq, .int .i64 yq, .int .i64 lkq, .int .i64 tpq, .int .i64 btq, .int .i64 sxq, .int .i64 syq, .string tiq, .slice aC_x1 lenCq cC_x1, .slice aH_x1 lenHq cH_x1] 42)) := (Below.refl _ _).alloc (Nat.le_refl _) _
  replace X_aS := Lib.hid (box_below X_aS.out hA (by omega))
  replace x_aS := box_cells X_aS.out
  replace X_aT := Lib.hid (box_below X_aT.out hA (by omega))
  replace x_aT := box_cells X_aT.out
  replace X_x0 := Lib.hid (box_below X_x0.out hA (by omega))
  replace x_x0 := box_cells X_x0.out
  have X_x1 := Lib.hid (box_new w4 (.cells #[.int .i64 wdq, .int .i64 htq, .int .i64 xq, .int .i64 yq, .int .i64 lkq, .int .i64 tpq, .int .i64 btq, .int .i64 sxq, .int .i64 syq, .string tiq, .slice aC_x1 lenCq cC_x1, .slice aH_x1 lenHq cH_x1] 42))
  have x_x1 := box_cells X_x1.out
  replace sC_x0 := sC_x0.below hA (by omega)
  replace sH_x0 := sH_x0.below hA (by omega)
  replace sC_x1 := sC_x1.below hA (by omega)
  replace sH_x1 := sH_x1.below hA (by omega)
  replace BB := BB.trans (hA.mono (by omega))
  clear hA
  go_wp2_with fail
  generalize hv : w4.alloc (.cells #[.int .i64 wdq, .int .i64 htq, .int .i64 xq, .int .i64 yq, .int .i64 lkq, .int .i64 tpq, .int .i64 btq, .int .i64 sxq, .int .i64 syq, .string tiq, .slice aC_x1 lenCq cC_x1, .slice aH_x1 lenHq cH_x1] 42) = v2 at *
  have hs_v2 : v2.heap.size = w4.heap.size + 1 := by rw [← hv]; simp
  clear hv
  refine (implSameScreen_any wd ht x y lk tp bt sx sy ti aC_x0 lenC cC_x0 cs aH_x0 lenH cH_x0 hs wdq htq xq yq lkq tpq btq sxq syq tiq aC_x1 lenCq cC_x1 csq aH_x1 lenHq cH_x1 hsq r1 r2 l1 l2 r cd _ hti sC_x0.at HLC.out hnc sH_x0.at HLH.out hnh HZ.out k_x0 htiq sC_x1.at HLCq.out hncq sH_x1.at HLHq.out hnhq HZq.out k_x1 HR1.out HR2.out HL1.out HL2.out HR.out).mono ?_
  rintro e w5 ⟨rfl, hb⟩
  have hz5 : v2.heap.size ≤ w5.heap.size := hb.size
  replace X_aS := Lib.hid (box_below X_aS.out hb (by omega))
  replace x_aS := box_cells X_aS.out
  replace X_aT := Lib.hid (box_below X_aT.out hb (by omega))
  replace x_aT := box_cells X_aT.out
  replace X_x0 := Lib.hid (box_below X_x0.out hb (by omega))
  replace x_x0 := box_cells X_x0.out
  replace X_x1 := Lib.hid (box_below X_x1.out hb (by omega))
  replace x_x1 := box_cells X_x1.out
  replace sC_x0 := sC_x0.below hb (by omega)
  replace sH_x0 := sH_x0.below hb (by omega)
  replace sC_x1 := sC_x1.below hb (by omega)
  replace sH_x1 := sH_x1.below hb (by omega)
  replace BB : Below w.heap.size w w5 := BB.trans (hb.mono (by omega))
  clear hb
  go_wp2_with fail
  have sCd : Sl _ _ w5.drew aC_x0 (cellsV cs) := sC_x0
  have sHd : Sl _ _ w5.drew aH_x0 (strs hs) := sH_x0
  have xad : ∀ i, w5.drew.cell? ⟨w.heap.size, i, none⟩ = (#[.int .i64 wd, .int .i64 ht, .int .i64 x, .int .i64 y, .int .i64 lk, .int .i64 tp, .int .i64 bt, .int .i64 sx, .int .i64 sy, .string ti, .slice aC lenC capC, .slice aH lenH capH] : Array Value)[i]? := x_aS
  have xxd : ∀ i, w5.drew.cell? ⟨w3.heap.size, i, none⟩ = (#[.int .i64 wd, .int .i64 ht, .int .i64 x, .int .i64 y, .int .i64 lk, .int .i64 tp, .int .i64 bt, .int .i64 sx, .int .i64 sy, .string ti, .slice aC_x0 lenC cC_x0, .slice aH_x0 lenH cH_x0] : Array Value)[i]? := x_x0
  have la : w.heap.size < w5.heap.size := by omega
  have lx : w3.heap.size < w5.heap.size := by omega
  go_region_held3 (fun w' => (∀ i, w'.cell? ⟨w.heap.size, i, none⟩ = (#[.int .i64 wd, .int .i64 ht, .int .i64 x, .int .i64 y, .int .i64 lk, .int .i64 tp, .int .i64 bt, .int .i64 sx, .int .i64 sy, .string ti, .slice aC lenC capC, .slice aH lenH capH] : Array Value)[i]?) ∧ (∀ i, w'.cell? ⟨w3.heap.size, i, none⟩ = (#[.int .i64 wd, .int .i64 ht, .int .i64 x, .int .i64 y, .int .i64 lk, .int .i64 tp, .int .i64 bt, .int .i64 sx, .int .i64 sy, .string ti, .slice aC_x0 lenC cC_x0, .slice aH_x0 lenH cH_x0] : Array Value)[i]?)) (first | with_reducible exact ⟨yb, zb⟩ | with_reducible exact ⟨ya, za⟩ | exact ⟨xad, xxd⟩)
    (first
    | (go_at_call 21; refine (toScreen_any wd ht x y lk tp bt sx sy ti aC lenC capC cs aH lenH capH hs _ (hc.below BB.drew (Nat.le_refl _)) HLC.out f1 (hh.below BB.drew (Nat.le_refl _)) HLH.out (by omega)).mono ?_; rintro e wA_3 ⟨aC_u, cC_u, aH_u, cH_u, rfl, k_u, ap_u, uC, uH, hbA0⟩; have hbA : Below w5.heap.size w5.drew wA_3 := hbA0; have hzA_3 : w5.heap.size ≤ wA_3.heap.size := hbA.size; have ya := cells_below xad hbA la; have za := cells_below xxd hbA lx; clear hbA0)
    | (go_at_call 23; refine (eqScreen_same wd ht x y lk tp bt sx sy ti aC_x0 aC_u lenC cC_x0 cC_u cs aH_x0 aH_u lenH cH_x0 cH_u hs _ (sCd.below hbA (by omega)).at uC.at HLC.out (by omega) (sHd.below hbA (by omega)).at uH.at HLH.out hnh).mono ?_; rintro e wB_3 ⟨rfl, hbB⟩; have yb := cells_below ya hbB (by omega); have zb := cells_below za hbB (by omega))
    | fail)
  rename_i hh0
  clear hh0 sCd sHd xad xxd ya za yb zb uC uH
  have hzB_3 : wA_3.heap.size ≤ wB_3.heap.size := hbB.size
  replace X_aS := Lib.hid (box_below (box_below (W := w5.drew) X_aS.out hbA (by omega)) hbB (by omega))
  replace x_aS := box_cells X_aS.out
  replace X_aT := Lib.hid (box_below (box_below (W := w5.drew) X_aT.out hbA (by omega)) hbB (by omega))
  replace x_aT := box_cells X_aT.out
  replace X_x0 := Lib.hid (box_below (box_below (W := w5.drew) X_x0.out hbA (by omega)) hbB (by omega))
  replace x_x0 := box_cells X_x0.out
  replace X_x1 := Lib.hid (box_below (box_below (W := w5.drew) X_x1.out hbA (by omega)) hbB (by omega))
  replace x_x1 := box_cells X_x1.out
  have sdr : Sl _ _ w5.drew _ _ := sC_x0
  replace sC_x0 := (sdr.below hbA (by omega)).below hbB (by omega)
  clear sdr
  have sdr : Sl _ _ w5.drew _ _ := sH_x0
  replace sH_x0 := (sdr.below hbA (by omega)).below hbB (by omega)
  clear sdr
  have sdr : Sl _ _ w5.drew _ _ := sC_x1
  replace sC_x1 := (sdr.below hbA (by omega)).below hbB (by omega)
  clear sdr
  have sdr : Sl _ _ w5.drew _ _ := sH_x1
  replace sH_x1 := (sdr.below hbA (by omega)).below hbB (by omega)
  clear sdr
  replace BB : Below w.heap.size w wB_3 := (BB.drew.trans (hbA.mono (by omega))).trans (hbB.mono (by omega))
  clear hbA hbB
  go_wp2_with fail
  have sCd : Sl _ _ wB_3.drew aC_x1 (cellsV csq) := sC_x1
  have sHd : Sl _ _ wB_3.drew aH_x1 (strs hsq) := sH_x1
  have xad : ∀ i, wB_3.drew.cell? ⟨(w.heap.size + 1), i, none⟩ = (#[.int .i64 wdq, .int .i64 htq, .int .i64 xq, .int .i64 yq, .int .i64 lkq, .int .i64 tpq, .int .i64 btq, .int .i64 sxq, .int .i64 syq, .string tiq, .slice aCq lenCq capCq, .slice aHq lenHq capHq] : Array Value)[i]? := x_aT
  have xxd : ∀ i, wB_3.drew.cell? ⟨w4.heap.size, i, none⟩ = (#[.int .i64 wdq, .int .i64 htq, .int .i64 xq, .int .i64 yq, .int .i64 lkq, .int .i64 tpq, .int .i64 btq, .int .i64 sxq, .int .i64 syq, .string tiq, .slice aC_x1 lenCq cC_x1, .slice aH_x1 lenHq cH_x1] : Array Value)[i]? := x_x1
  have la : (w.heap.size + 1) < wB_3.heap.size := by omega
  have lx : w4.heap.size < wB_3.heap.size := by omega
  go_region_held3 (fun w' => (∀ i, w'.cell? ⟨(w.heap.size + 1), i, none⟩ = (#[.int .i64 wdq, .int .i64 htq, .int .i64 xq, .int .i64 yq, .int .i64 lkq, .int .i64 tpq, .int .i64 btq, .int .i64 sxq, .int .i64 syq, .string tiq, .slice aCq lenCq capCq, .slice aHq lenHq capHq] : Array Value)[i]?) ∧ (∀ i, w'.cell? ⟨w4.heap.size, i, none⟩ = (#[.int .i64 wdq, .int .i64 htq, .int .i64 xq, .int .i64 yq, .int .i64 lkq, .int .i64 tpq, .int .i64 btq, .int .i64 sxq, .int .i64 syq, .string tiq, .slice aC_x1 lenCq cC_x1, .slice aH_x1 lenHq cH_x1] : Array Value)[i]?)) (first | with_reducible exact ⟨yb, zb⟩ | with_reducible exact ⟨ya, za⟩ | exact ⟨xad, xxd⟩)
    (first
    | (go_at_call 21; refine (toScreen_any wdq htq xq yq lkq tpq btq sxq syq tiq aCq lenCq capCq csq aHq lenHq capHq hsq _ (hcq.below BB.drew (Nat.le_refl _)) HLCq.out f1q (hhq.below BB.drew (Nat.le_refl _)) HLHq.out (by omega)).mono ?_; rintro e wA_4 ⟨aC_u, cC_u, aH_u, cH_u, rfl, k_u, ap_u, uC, uH, hbA0⟩; have hbA : Below wB_3.heap.size wB_3.drew wA_4 := hbA0; have hzA_4 : wB_3.heap.size ≤ wA_4.heap.size := hbA.size; have ya := cells_below xad hbA la; have za := cells_below xxd hbA lx; clear hbA0)
    | (go_at_call 23; refine (eqScreen_same wdq htq xq yq lkq tpq btq sxq syq tiq aC_x1 aC_u lenCq cC_x1 cC_u csq aH_x1 aH_u lenHq cH_x1 cH_u hsq _ (sCd.below hbA (by omega)).at uC.at HLCq.out (by omega) (sHd.below hbA (by omega)).at uH.at HLHq.out hnhq).mono ?_; rintro e wB_4 ⟨rfl, hbB⟩; have yb := cells_below ya hbB (by omega); have zb := cells_below za hbB (by omega))
    | fail)
  rename_i hh0
  clear hh0 sCd sHd xad xxd ya za yb zb uC uH
  have hzB_4 : wA_4.heap.size ≤ wB_4.heap.size := hbB.size
  replace X_aS := Lib.hid (box_below (box_below (W := wB_3.drew) X_aS.out hbA (by omega)) hbB (by omega))
  replace x_aS := box_cells X_aS.out
  replace X_aT := Lib.hid (box_below (box_below (W := wB_3.drew) X_aT.out hbA (by omega)) hbB (by omega))
  replace x_aT := box_cells X_aT.out
  replace X_x0 := Lib.hid (box_below (box_below (W := wB_3.drew) X_x0.out hbA (by omega)) hbB (by omega))
  replace x_x0 := box_cells X_x0.out
  replace X_x1 := Lib.hid (box_below (box_below (W := wB_3.drew) X_x1.out hbA (by omega)) hbB (by omega))
  replace x_x1 := box_cells X_x1.out
  have sdr : Sl _ _ wB_3.drew _ _ := sC_x0
  replace sC_x0 := (sdr.below hbA (by omega)).below hbB (by omega)
  clear sdr
  have sdr : Sl _ _ wB_3.drew _ _ := sH_x0
  replace sH_x0 := (sdr.below hbA (by omega)).below hbB (by omega)
  clear sdr
  have sdr : Sl _ _ wB_3.drew _ _ := sC_x1
  replace sC_x1 := (sdr.below hbA (by omega)).below hbB (by omega)
  clear sdr
  have sdr : Sl _ _ wB_3.drew _ _ := sH_x1
  replace sH_x1 := (sdr.below hbA (by omega)).below hbB (by omega)
  clear sdr
  replace BB : Below w.heap.size w wB_4 := (BB.drew.trans (hbA.mono (by omega))).trans (hbB.mono (by omega))
  clear hbA hbB
  go_wp2_with fail
  go_ret
  exact ⟨rfl, BB⟩
end Go.Proofs.Ytfabclhcceooaaa
