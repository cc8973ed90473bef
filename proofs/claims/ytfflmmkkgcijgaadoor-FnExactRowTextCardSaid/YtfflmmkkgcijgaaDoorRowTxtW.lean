/-
  The walk of the law FnExactRowText of the given program. No condition.
-/
import Derived.Test.YtfflmmkkgcijgaaDoorRowTxt
import Derived.Test.YtfflmmkkgcijgaaDoorScrTo
import Derived.Test.YtfflmmkkgcijgaaDoorAggCell
import Derived.Deep.RegionHeld3
namespace Go.Proofs.YtfflmmkkgcijgaaDoor
open Go.ChangeShapes Go.WideShapes Go.ChangeAt Go.RowKit
set_option linter.unusedVariables false
set_option linter.unusedSimpArgs false

set_option maxHeartbeats 2000000 in
set_option maxRecDepth 100000 in
theorem walk_FnExactRowText (w : World) (wd : Int) (_ : (Lit.int .i64 wd).wf = true) (ht : Int) (_ : (Lit.int .i64 ht).wf = true) (x : Int) (_ : (Lit.int .i64 x).wf = true) (y : Int) (_ : (Lit.int .i64 y).wf = true) (lk : Int) (_ : (Lit.int .i64 lk).wf = true) (tp : Int) (_ : (Lit.int .i64 tp).wf = true) (bt : Int) (_ : (Lit.int .i64 bt).wf = true) (sx : Int) (_ : (Lit.int .i64 sx).wf = true) (sy : Int) (_ : (Lit.int .i64 sy).wf = true) (ti : ByteArray) (hti : ti.size ≤ maxLen) (aC : Option Addr) (lenC capC : Nat) (cs : List (Int × Int)) (hc : At w aC (cellsV cs)) (hlc : cs.length = lenC) (hnc : lenC ≤ maxLen) (hcc : lenC ≤ capC) (aH : Option Addr) (lenH capH : Nat) (hs : List ByteArray) (hh : At w aH (strs hs)) (hlh : hs.length = lenH) (hnh : lenH ≤ maxLen) (hz : ∀ s ∈ hs, s.size ≤ maxLen) (yy : Int) (_ : (Lit.int .i64 yy).wf = true) :
    Calls Tryd.prog 3 #[.agg #[.int .i64 wd, .int .i64 ht, .int .i64 x, .int .i64 y, .int .i64 lk, .int .i64 tp, .int .i64 bt, .int .i64 sx, .int .i64 sy, .string ti, .slice aC lenC capC, .slice aH lenH capH], .int .i64 yy] w fun e w' => e = .returned (.bool true) ∧ Below w.heap.size w w' := by
  have HLC := Lib.hid hlc
  have HLH := Lib.hid hlh
  have HZ := Lib.hid hz
  obtain ⟨T, cd, hR⟩ : ∃ T cd, rowTR wd ht x y lk tp bt sx sy ti cs hs yy = (T, cd) := ⟨_, _, rfl⟩
  have HR := Lib.hid hR
  clear hR
  clear hlc hlh hz

  go_enter Tryd.func3, Tryd.ntmps3
  have B0 : Below w.heap.size w (w.alloc (.cells #[.int .i64 wd, .int .i64 ht, .int .i64 x, .int .i64 y, .int .i64 lk, .int .i64 tp, .int .i64 bt, .int .i64 sx, .int .i64 sy, .string ti, .slice aC lenC capC, .slice aH lenH capH] 25)) := (Below.refl _ _).alloc (Nat.le_refl _) _
  go_wp2_with fail
  refine (szScreen_any wd ht x y lk tp bt sx sy ti aC lenC capC aH lenH capH hs _ hti hnc (hh.below B0 (Nat.le_refl _)) HLH.out hnh HZ.out).mono ?_
  rintro e w1 ⟨r, rfl, hr, hb1⟩
  have hz1 : w.heap.size + 1 ≤ w1.heap.size := by have := hb1.size; simpa using this
  have B1 : Below w.heap.size w w1 := B0.trans (hb1.mono (by simp))
  have X1 := Lib.hid (box_below (box_new w (.cells #[.int .i64 wd, .int .i64 ht, .int .i64 x, .int .i64 y, .int .i64 lk, .int .i64 tp, .int .i64 bt, .int .i64 sx, .int .i64 sy, .string ti, .slice aC lenC capC, .slice aH lenH capH] 25)) hb1 (by simp))
  have x1 := box_cells X1.out
  by_cases hneg : r < 0
  · clear hr
    go_wp2
    go_ret
    exact ⟨rfl, B1⟩
  have hfit := hr (by omega)
  clear hr
  obtain ⟨f1, f2, f3⟩ := hfit
  go_wp2_with fail
  refine (toScreen_any wd ht x y lk tp bt sx sy ti aC lenC capC cs aH lenH capH hs _ (hc.below B1 (Nat.le_refl _)) HLC.out f1 (hh.below B1 (Nat.le_refl _)) HLH.out (by omega)).mono ?_
  rintro e w2 ⟨a_tC, c_tC, a_tH, c_tH, rfl, k_t, ap_t, h_tC, h_tH, hb2⟩
  have hz2 := hb2.size
  have B2 : Below w.heap.size w w2 := B1.trans (hb2.mono (by omega))
  have s_tC := Sl.of h_tC
  have s_tH := Sl.of h_tH
  have X2 := Lib.hid (box_below X1.out hb2 (by omega))
  have x2 := box_cells X2.out
  clear x1 X1
  go_wp2_with fail
  refine (specRowText_any wd ht x y lk tp bt sx sy ti a_tC lenC c_tC cs a_tH lenH c_tH hs yy T cd _ hti s_tC.at HLC.out hnc s_tH.at HLH.out hnh HZ.out HR.out).mono ?_
  rintro e w3 ⟨rfl, hb3⟩
  have hz3 := hb3.size
  have B3 : Below w.heap.size w w3 := B2.trans (hb3.mono (by omega))
  have X3 := Lib.hid (box_below X2.out hb3 (by omega))
  have x3 := box_cells X3.out
  clear x2 X2
  go_wp2_with fail
  refine (toScreen_any wd ht x y lk tp bt sx sy ti aC lenC capC cs aH lenH capH hs _ (hc.below B3 (Nat.le_refl _)) HLC.out f1 (hh.below B3 (Nat.le_refl _)) HLH.out (by omega)).mono ?_
  rintro e w4 ⟨a_xC, c_xC, a_xH, c_xH, rfl, k_x, ap_x, h_xC, h_xH, hb4⟩
  have hz4 := hb4.size
  have B4 : Below w.heap.size w w4 := B3.trans (hb4.mono (by omega))
  have s_xC := Sl.of h_xC
  have s_xH := Sl.of h_xH
  have X4 := Lib.hid (box_below X3.out hb4 (by omega))
  have x4 := box_cells X4.out
  clear x3 X3 hb1 hb2 hb3 hb4 h_tC s_tC h_xC h_tH s_tH h_xH
  have B4' : Below w.heap.size w (w4.alloc (.cells #[.int .i64 wd, .int .i64 ht, .int .i64 x, .int .i64 y, .int .i64 lk, .int .i64 tp, .int .i64 bt, .int .i64 sx, .int .i64 sy, .string ti, .slice a_xC lenC c_xC, .slice a_xH lenH c_xH] 31)) := B4.alloc B4.size _
  have hA4 : Below w4.heap.size w4 (w4.alloc (.cells #[.int .i64 wd, .int .i64 ht, .int .i64 x, .int .i64 y, .int .i64 lk, .int .i64 tp, .int .i64 bt, .int .i64 sx, .int .i64 sy, .string ti, .slice a_xC lenC c_xC, .slice a_xH lenH c_xH] 31)) := (Below.refl _ _).alloc (Nat.le_refl _) _
  have s_yC := s_xC.below hA4 (by omega)
  have s_yH := s_xH.below hA4 (by omega)
  go_wp2_with fail
  refine (implRowText_any wd ht x y lk tp bt sx sy ti a_xC lenC c_xC cs a_xH lenH c_xH hs yy T cd _ hti s_yC.at HLC.out hnc s_yH.at HLH.out hnh HZ.out k_x HR.out).mono ?_
  rintro e w5 ⟨rfl, hb5⟩
  have hz5 : w4.heap.size + 1 ≤ w5.heap.size := by have := hb5.size; simpa using this
  have B5 : Below w.heap.size w w5 := B4'.trans (hb5.mono (by simp <;> omega))
  have X5 := Lib.hid (box_below ((Below.heap_alloc w4 _ w.heap.size (by omega)).trans X4.out) hb5 (by simp <;> omega))
  have x5 := box_cells X5.out
  have Y5 := Lib.hid (box_below (box_new w4 (.cells #[.int .i64 wd, .int .i64 ht, .int .i64 x, .int .i64 y, .int .i64 lk, .int .i64 tp, .int .i64 bt, .int .i64 sx, .int .i64 sy, .string ti, .slice a_xC lenC c_xC, .slice a_xH lenH c_xH] 31)) hb5 (by simp))
  have y5 := box_cells Y5.out
  have s_zC := s_yC.below hb5 (by simp <;> omega)
  have s_zH := s_yH.below hb5 (by simp <;> omega)
  clear x4 X4 hb5 hA4 B4' s_xC s_yC s_xH s_yH
  generalize hxb : w4.heap.size = xb at *
  clear hxb
  have hxw : w.heap.size < w5.heap.size := by omega
  have hxv : xb < w5.heap.size := by omega
  have s_vC : Sl _ _ w5.drew a_xC (cellsV cs) := s_zC
  have s_vH : Sl _ _ w5.drew a_xH (strs hs) := s_zH
  go_wp2_with fail
  go_region_held3 (fun w' => (∀ i, w'.cell? ⟨w.heap.size, i, none⟩ = (#[.int .i64 wd, .int .i64 ht, .int .i64 x, .int .i64 y, .int .i64 lk, .int .i64 tp, .int .i64 bt, .int .i64 sx, .int .i64 sy, .string ti, .slice aC lenC capC, .slice aH lenH capH] : Array Value)[i]?) ∧ (∀ i, w'.cell? ⟨xb, i, none⟩ = (#[.int .i64 wd, .int .i64 ht, .int .i64 x, .int .i64 y, .int .i64 lk, .int .i64 tp, .int .i64 bt, .int .i64 sx, .int .i64 sy, .string ti, .slice a_xC lenC c_xC, .slice a_xH lenH c_xH] : Array Value)[i]?)) (first | with_reducible exact ⟨x7, y7⟩ | with_reducible exact ⟨x6, y6⟩ | exact ⟨x5, y5⟩)
    (first
    | (go_at_call 7; refine (toScreen_any wd ht x y lk tp bt sx sy ti aC lenC capC cs aH lenH capH hs _ (hc.below B5.drew (Nat.le_refl _)) HLC.out f1 (hh.below B5.drew (Nat.le_refl _)) HLH.out (by omega)).mono ?_; rintro e w6 ⟨a_uC, c_uC, a_uH, c_uH, rfl, k_u, ap_u, h_uC, h_uH, hb6⟩; have hz6 : w5.heap.size ≤ w6.heap.size := hb6.size; have B6 : Below w.heap.size w w6 := B5.drew.trans (hb6.mono (by exact B5.size)); have x6 := cells_below (W := w5.drew) x5 hb6 (by exact hxw); have y6 := cells_below (W := w5.drew) y5 hb6 (by exact hxv); have s_qC := s_vC.below (D := w5.heap.size) hb6 (by omega); have s_qH := s_vH.below (D := w5.heap.size) hb6 (by omega))
    | (go_at_call 9; refine (eqScreen_same wd ht x y lk tp bt sx sy ti a_xC a_uC lenC c_xC c_uC cs a_xH a_uH lenH c_xH c_uH hs _ s_qC.at h_uC.at HLC.out (by omega) s_qH.at h_uH.at HLH.out hnh).mono ?_; rintro e w7 ⟨rfl, hb7⟩; have B7 : Below w.heap.size w w7 := B6.trans (hb7.mono (by exact B6.size)); have x7 := cells_below x6 hb7 (by omega); have y7 := cells_below y6 hb7 (by omega))
    | fail)
  rename_i hh
  clear hh
  go_wp2
  go_ret
  exact ⟨rfl, B7⟩
end Go.Proofs.YtfflmmkkgcijgaaDoor
