/-
  The walk of the law FnExactSplitArea of the given program. No condition.
-/
import Derived.Test.YtepamcfaiahmbaaSplitS
import Derived.Test.YtepamcfaiahmbaaSplitI2
import Derived.Test.YtepamcfaiahmbaaLayMark
import Derived.Test.YtepamcfaiahmbaaLayTo
import Derived.Test.YtepamcfaiahmbaaAggPart
import Derived.Deep.RegionHeld3
namespace Go.Proofs.Ytepamcfaiahmbaa
open Go.ChangeShapes Go.WideShapes Go.ChangeAt Go.RowKit
set_option linter.unusedVariables false
set_option linter.unusedSimpArgs false
attribute [local irreducible] wpList

set_option maxHeartbeats 8000000 in
set_option maxRecDepth 100000 in
theorem walk_FnExactSplitArea (w : World) (aL : Option Addr) (lenL capL : Nat) (ps : List PartV) (hp : At w aL (partsV ps)) (hl : ps.length = lenL) (hn : lenL ≤ maxLen) (hc : lenL ≤ capL) (ww : Int) (_ : (Lit.int .i64 ww).wf = true) (hh : Int) (_ : (Lit.int .i64 hh).wf = true) (pn : Int) (_ : (Lit.int .i64 pn).wf = true) (fr : Int) (_ : (Lit.int .i64 fr).wf = true) (rws : Bool) :
    Calls Try.prog 7 #[.agg #[.slice aL lenL capL], .int .i64 ww, .int .i64 hh, .int .i64 pn, .int .i64 fr, .bool rws] w fun e w' => e = .returned (.bool true) ∧ Below w.heap.size w w' := by
  have HLC := Lib.hid hl
  have HP := Lib.hid hp
  obtain ⟨rl, cd, hR, hle⟩ := splitR_total ps ww hh pn fr rws
  obtain ⟨n, hrl⟩ : ∃ n, rl.length = n := ⟨_, rfl⟩
  have hle2 : n ≤ 13 := by rw [← hrl]; exact hle
  have HR := Lib.hid hR
  have HRL := Lib.hid hrl
  clear hl hp hR hrl hle
  go_enter Try.func7, Try.ntmps7
  have BB : Below w.heap.size w w := Below.refl _ _
  have hA : Below w.heap.size w (w.alloc (.cells #[.slice aL lenL capL] 32)) := (Below.refl _ _).alloc (Nat.le_refl _) _
  have X_aS := Lib.hid (box_new w (.cells #[.slice aL lenL capL] 32))
  have x_aS := box_cells X_aS.out
  replace BB := BB.trans (hA.mono (by omega))
  clear hA
  go_wp2_with fail
  generalize hv : w.alloc (.cells #[.slice aL lenL capL] 32) = v0 at *
  have hs_v0 : v0.heap.size = w.heap.size + 1 := by rw [← hv]; simp
  clear hv
  refine (szLayout_any aL lenL capL _ hn).mono ?_
  rintro e w1 ⟨r, rfl, hr, hb⟩
  have hz1 : v0.heap.size ≤ w1.heap.size := hb.size
  replace X_aS := Lib.hid (box_below X_aS.out hb (by omega))
  replace x_aS := box_cells X_aS.out
  replace BB : Below w.heap.size w w1 := BB.trans (hb.mono (by omega))
  clear hb
  by_cases hneg : r < 0
  · clear hr
    go_wp2
    go_ret
    exact ⟨rfl, BB⟩
  have f1 := hr (by omega)
  clear hr
  have hc0 := BB.size
  go_wp2_with fail
  refine (toLayout_any aL lenL capL ps _ (HP.out.below BB (Nat.le_refl _)) HLC.out f1).mono ?_
  rintro e w2 ⟨a_t0, c_t0, rfl, k_t0, hM, hb⟩
  have hz2 : w1.heap.size ≤ w2.heap.size := hb.size
  replace X_aS := Lib.hid (box_below X_aS.out hb (by omega))
  replace x_aS := box_cells X_aS.out
  replace BB : Below w.heap.size w w2 := BB.trans (hb.mono (by omega))
  clear hb
  clear hc0
  have s_t0 := Sl.of hM
  clear hM
  have hc0 := BB.size
  go_wp2_with fail
  refine (specSplitR_any a_t0 lenL c_t0 ps ww hh pn fr rws n rl cd _ s_t0.at HLC.out k_t0 (by omega) HR.out HRL.out).mono ?_
  rintro e w3 ⟨a_w0, c_w0, rfl, k_w0, hM, hb⟩
  have hz3 : w2.heap.size ≤ w3.heap.size := hb.size
  replace X_aS := Lib.hid (box_below X_aS.out hb (by omega))
  replace x_aS := box_cells X_aS.out
  replace s_t0 := s_t0.below hb (by omega)
  replace BB : Below w.heap.size w w3 := BB.trans (hb.mono (by omega))
  clear hb
  clear hc0
  have s_w0 := Sl.of hM
  clear hM
  clear s_t0
  have hA : Below w3.heap.size w3 (w3.alloc (.cells #[.slice a_w0 n c_w0] 24)) := (Below.refl _ _).alloc (Nat.le_refl _) _
  replace X_aS := Lib.hid (box_below X_aS.out hA (by omega))
  replace x_aS := box_cells X_aS.out
  have X_w0 := Lib.hid (box_new w3 (.cells #[.slice a_w0 n c_w0] 24))
  have x_w0 := box_cells X_w0.out
  replace s_w0 := s_w0.below hA (by omega)
  replace BB := BB.trans (hA.mono (by omega))
  clear hA
  have hc0 := BB.size
  go_wp2_with fail
  generalize hv : w3.alloc (.cells #[.slice a_w0 n c_w0] 24) = v1 at *
  have hs_v1 : v1.heap.size = w3.heap.size + 1 := by rw [← hv]; simp
  clear hv
  refine (toLayout_any aL lenL capL ps _ (HP.out.below BB (Nat.le_refl _)) HLC.out f1).mono ?_
  rintro e w4 ⟨a_x0, c_x0, rfl, k_x0, hM, hb⟩
  have hz4 : v1.heap.size ≤ w4.heap.size := hb.size
  replace X_aS := Lib.hid (box_below X_aS.out hb (by omega))
  replace x_aS := box_cells X_aS.out
  replace X_w0 := Lib.hid (box_below X_w0.out hb (by omega))
  replace x_w0 := box_cells X_w0.out
  replace s_w0 := s_w0.below hb (by omega)
  replace BB : Below w.heap.size w w4 := BB.trans (hb.mono (by omega))
  clear hb
  clear hc0
  have s_x0 := Sl.of hM
  clear hM
  have hA : Below w4.heap.size w4 (w4.alloc (.cells #[.slice a_x0 lenL c_x0] 24)) := (Below.refl _ _).alloc (Nat.le_refl _) _
  replace X_aS := Lib.hid (box_below X_aS.out hA (by omega))
  replace x_aS := box_cells X_aS.out
  replace X_w0 := Lib.hid (box_below X_w0.out hA (by omega))
  replace x_w0 := box_cells X_w0.out
  have X_x0 := Lib.hid (box_new w4 (.cells #[.slice a_x0 lenL c_x0] 24))
  have x_x0 := box_cells X_x0.out
  replace s_w0 := s_w0.below hA (by omega)
  replace s_x0 := s_x0.below hA (by omega)
  replace BB := BB.trans (hA.mono (by omega))
  clear hA
  have hc0 := BB.size
  go_wp2_with fail
  generalize hv : w4.alloc (.cells #[.slice a_x0 lenL c_x0] 24) = v2 at *
  have hs_v2 : v2.heap.size = w4.heap.size + 1 := by rw [← hv]; simp
  clear hv
  refine (implSplitR_any a_x0 lenL c_x0 ps ww hh pn fr rws n rl cd _ s_x0.at HLC.out k_x0 (by omega) HR.out HRL.out).mono ?_
  rintro e w5 ⟨a_g0, c_g0, rfl, k_g0, hM, hb⟩
  have hz5 : v2.heap.size ≤ w5.heap.size := hb.size
  replace X_aS := Lib.hid (box_below X_aS.out hb (by omega))
  replace x_aS := box_cells X_aS.out
  replace X_w0 := Lib.hid (box_below X_w0.out hb (by omega))
  replace x_w0 := box_cells X_w0.out
  replace X_x0 := Lib.hid (box_below X_x0.out hb (by omega))
  replace x_x0 := box_cells X_x0.out
  replace s_w0 := s_w0.below hb (by omega)
  replace s_x0 := s_x0.below hb (by omega)
  replace BB : Below w.heap.size w w5 := BB.trans (hb.mono (by omega))
  clear hb
  clear hc0
  have s_g0 := Sl.of hM
  clear hM
  have hA : Below w5.heap.size w5 (w5.alloc (.cells #[.slice a_g0 n c_g0] 24)) := (Below.refl _ _).alloc (Nat.le_refl _) _
  replace X_aS := Lib.hid (box_below X_aS.out hA (by omega))
  replace x_aS := box_cells X_aS.out
  replace X_w0 := Lib.hid (box_below X_w0.out hA (by omega))
  replace x_w0 := box_cells X_w0.out
  replace X_x0 := Lib.hid (box_below X_x0.out hA (by omega))
  replace x_x0 := box_cells X_x0.out
  have X_g0 := Lib.hid (box_new w5 (.cells #[.slice a_g0 n c_g0] 24))
  have x_g0 := box_cells X_g0.out
  replace s_w0 := s_w0.below hA (by omega)
  replace s_x0 := s_x0.below hA (by omega)
  replace s_g0 := s_g0.below hA (by omega)
  replace BB := BB.trans (hA.mono (by omega))
  clear hA
  go_wp2_with fail
  generalize hv : w5.alloc (.cells #[.slice a_g0 n c_g0] 24) = v3 at *
  have hs_v3 : v3.heap.size = w5.heap.size + 1 := by rw [← hv]; simp
  clear hv
  refine (eqLayout_same a_g0 a_w0 n c_g0 c_w0 rl _ s_g0.at s_w0.at HRL.out (by omega)).mono ?_
  rintro e w6 ⟨rfl, hb⟩
  have hz6 : v3.heap.size ≤ w6.heap.size := hb.size
  replace X_aS := Lib.hid (box_below X_aS.out hb (by omega))
  replace x_aS := box_cells X_aS.out
  replace X_w0 := Lib.hid (box_below X_w0.out hb (by omega))
  replace x_w0 := box_cells X_w0.out
  replace X_x0 := Lib.hid (box_below X_x0.out hb (by omega))
  replace x_x0 := box_cells X_x0.out
  replace X_g0 := Lib.hid (box_below X_g0.out hb (by omega))
  replace x_g0 := box_cells X_g0.out
  replace s_w0 := s_w0.below hb (by omega)
  replace s_x0 := s_x0.below hb (by omega)
  replace s_g0 := s_g0.below hb (by omega)
  replace BB : Below w.heap.size w w6 := BB.trans (hb.mono (by omega))
  clear hb
  go_wp2_with fail
  have sCd : Sl _ _ w6.drew a_x0 (partsV ps) := s_x0
  have xad : ∀ i, w6.drew.cell? ⟨w.heap.size, i, none⟩ = (#[.slice aL lenL capL] : Array Value)[i]? := x_aS
  have xxd : ∀ i, w6.drew.cell? ⟨w4.heap.size, i, none⟩ = (#[.slice a_x0 lenL c_x0] : Array Value)[i]? := x_x0
  have la : w.heap.size < w6.heap.size := by omega
  have lx : w4.heap.size < w6.heap.size := by omega
  go_region_held3 (fun w' => (∀ i, w'.cell? ⟨w.heap.size, i, none⟩ = (#[.slice aL lenL capL] : Array Value)[i]?) ∧ (∀ i, w'.cell? ⟨w4.heap.size, i, none⟩ = (#[.slice a_x0 lenL c_x0] : Array Value)[i]?)) (first | with_reducible exact ⟨yb, zb⟩ | with_reducible exact ⟨ya, za⟩ | exact ⟨xad, xxd⟩)
    (first
    | (go_at_call 19; refine (toLayout_any aL lenL capL ps _ (HP.out.below BB.drew (Nat.le_refl _)) HLC.out f1).mono ?_; rintro e wA ⟨a_u, c_u, rfl, k_u, uM, hbA0⟩; have hbA : Below w6.heap.size w6.drew wA := hbA0; have hzA : w6.heap.size ≤ wA.heap.size := hbA.size; have ya := cells_below xad hbA la; have za := cells_below xxd hbA lx; clear hbA0)
    | (go_at_call 14; refine (eqLayout_same a_x0 a_u lenL c_x0 c_u ps _ (sCd.below hbA (by omega)).at uM.at HLC.out (by omega)).mono ?_; rintro e wB ⟨rfl, hbB⟩; have yb := cells_below ya hbB (by omega); have zb := cells_below za hbB (by omega))
    | fail)
  rename_i hh0
  clear hh0 sCd xad xxd ya za yb zb uM
  have hzB : wA.heap.size ≤ wB.heap.size := hbB.size
  replace X_aS := Lib.hid (box_below (box_below (W := w6.drew) X_aS.out hbA (by omega)) hbB (by omega))
  replace x_aS := box_cells X_aS.out
  replace X_w0 := Lib.hid (box_below (box_below (W := w6.drew) X_w0.out hbA (by omega)) hbB (by omega))
  replace x_w0 := box_cells X_w0.out
  replace X_x0 := Lib.hid (box_below (box_below (W := w6.drew) X_x0.out hbA (by omega)) hbB (by omega))
  replace x_x0 := box_cells X_x0.out
  replace X_g0 := Lib.hid (box_below (box_below (W := w6.drew) X_g0.out hbA (by omega)) hbB (by omega))
  replace x_g0 := box_cells X_g0.out
  have sdr : Sl _ _ w6.drew _ _ := s_w0
  replace s_w0 := (sdr.below hbA (by omega)).below hbB (by omega)
  clear sdr
  have sdr : Sl _ _ w6.drew _ _ := s_x0
  replace s_x0 := (sdr.below hbA (by omega)).below hbB (by omega)
  clear sdr
  have sdr : Sl _ _ w6.drew _ _ := s_g0
  replace s_g0 := (sdr.below hbA (by omega)).below hbB (by omega)
  clear sdr
  replace BB : Below w.heap.size w wB := (BB.drew.trans (hbA.mono (by omega))).trans (hbB.mono (by omega))
  clear hbA hbB
  go_wp2_with fail
  refine (markLayout_sl _ _ a_x0 lenL c_x0 ps 1 _ s_x0 (by omega) HLC.out (by omega) (by omega) (by omega)).mono ?_
  rintro e w7 ⟨rfl, mM, hg⟩
  have hb := hg.below
  have hz7 : wB.heap.size ≤ w7.heap.size := hb.size
  replace X_aS := Lib.hid (box_below X_aS.out hb (by omega))
  replace x_aS := box_cells X_aS.out
  replace X_w0 := Lib.hid (box_below X_w0.out hb (by omega))
  replace x_w0 := box_cells X_w0.out
  replace X_x0 := Lib.hid ((hg.above _ (by omega) (by omega)).trans X_x0.out)
  replace x_x0 := box_cells X_x0.out
  replace X_g0 := Lib.hid ((hg.above _ (by omega) (by omega)).trans X_g0.out)
  replace x_g0 := box_cells X_g0.out
  replace s_w0 := s_w0.below hb (by omega)
  replace s_g0 := s_g0.above hg (by omega)
  replace BB : Below w.heap.size w w7 := BB.trans (hb.mono (by omega))
  clear hb hg
  replace s_x0 := mM
  go_wp2_with fail
  refine (eqLayout_same a_g0 a_w0 n c_g0 c_w0 rl _ s_g0.at s_w0.at HRL.out (by omega)).mono ?_
  rintro e w8 ⟨rfl, hb⟩
  have hz8 : w7.heap.size ≤ w8.heap.size := hb.size
  replace X_aS := Lib.hid (box_below X_aS.out hb (by omega))
  replace x_aS := box_cells X_aS.out
  replace X_w0 := Lib.hid (box_below X_w0.out hb (by omega))
  replace x_w0 := box_cells X_w0.out
  replace X_x0 := Lib.hid (box_below X_x0.out hb (by omega))
  replace x_x0 := box_cells X_x0.out
  replace X_g0 := Lib.hid (box_below X_g0.out hb (by omega))
  replace x_g0 := box_cells X_g0.out
  replace s_w0 := s_w0.below hb (by omega)
  replace s_x0 := s_x0.below hb (by omega)
  replace s_g0 := s_g0.below hb (by omega)
  replace BB : Below w.heap.size w w8 := BB.trans (hb.mono (by omega))
  clear hb
  go_wp2_with fail
  refine (markLayout_sl _ _ a_g0 n c_g0 rl 1 _ s_g0 (by omega) HRL.out (by omega) (by omega) (by omega)).mono ?_
  rintro e w9 ⟨rfl, mM, hg⟩
  have hb := hg.below
  have hz9 : w8.heap.size ≤ w9.heap.size := hb.size
  replace X_aS := Lib.hid (box_below X_aS.out hb (by omega))
  replace x_aS := box_cells X_aS.out
  replace X_w0 := Lib.hid (box_below X_w0.out hb (by omega))
  replace x_w0 := box_cells X_w0.out
  replace X_x0 := Lib.hid (box_below X_x0.out hb (by omega))
  replace x_x0 := box_cells X_x0.out
  replace X_g0 := Lib.hid ((hg.above _ (by omega) (by omega)).trans X_g0.out)
  replace x_g0 := box_cells X_g0.out
  replace s_w0 := s_w0.below hb (by omega)
  replace s_x0 := s_x0.below hb (by omega)
  replace BB : Below w.heap.size w w9 := BB.trans (hb.mono (by omega))
  clear hb hg
  replace s_g0 := mM
  go_wp2_with fail
  refine (heldLayout_any a_g0 n c_g0 1 _ s_g0.at (by omega) (by omega)).mono ?_
  rintro e w10 ⟨rfl, hb⟩
  have hz10 : w9.heap.size ≤ w10.heap.size := hb.size
  replace X_aS := Lib.hid (box_below X_aS.out hb (by omega))
  replace x_aS := box_cells X_aS.out
  replace X_w0 := Lib.hid (box_below X_w0.out hb (by omega))
  replace x_w0 := box_cells X_w0.out
  replace X_x0 := Lib.hid (box_below X_x0.out hb (by omega))
  replace x_x0 := box_cells X_x0.out
  replace X_g0 := Lib.hid (box_below X_g0.out hb (by omega))
  replace x_g0 := box_cells X_g0.out
  replace s_w0 := s_w0.below hb (by omega)
  replace s_x0 := s_x0.below hb (by omega)
  replace s_g0 := s_g0.below hb (by omega)
  replace BB : Below w.heap.size w w10 := BB.trans (hb.mono (by omega))
  clear hb
  have hc0 := BB.size
  go_wp2_with fail
  refine (toLayout_any aL lenL capL ps _ (HP.out.below BB (Nat.le_refl _)) HLC.out f1).mono ?_
  rintro e w11 ⟨a_t3, c_t3, rfl, k_t3, hM, hb⟩
  have hz11 : w10.heap.size ≤ w11.heap.size := hb.size
  replace X_aS := Lib.hid (box_below X_aS.out hb (by omega))
  replace x_aS := box_cells X_aS.out
  replace X_w0 := Lib.hid (box_below X_w0.out hb (by omega))
  replace x_w0 := box_cells X_w0.out
  replace X_x0 := Lib.hid (box_below X_x0.out hb (by omega))
  replace x_x0 := box_cells X_x0.out
  replace X_g0 := Lib.hid (box_below X_g0.out hb (by omega))
  replace x_g0 := box_cells X_g0.out
  replace s_w0 := s_w0.below hb (by omega)
  replace s_x0 := s_x0.below hb (by omega)
  replace s_g0 := s_g0.below hb (by omega)
  replace BB : Below w.heap.size w w11 := BB.trans (hb.mono (by omega))
  clear hb
  clear hc0
  have s_t3 := Sl.of hM
  clear hM
  have hc0 := BB.size
  go_wp2_with fail
  refine (implSplitR_any a_t3 lenL c_t3 ps ww hh pn fr rws n rl cd _ s_t3.at HLC.out k_t3 (by omega) HR.out HRL.out).mono ?_
  rintro e w12 ⟨a_h0, c_h0, rfl, k_h0, hM, hb⟩
  have hz12 : w11.heap.size ≤ w12.heap.size := hb.size
  replace X_aS := Lib.hid (box_below X_aS.out hb (by omega))
  replace x_aS := box_cells X_aS.out
  replace X_w0 := Lib.hid (box_below X_w0.out hb (by omega))
  replace x_w0 := box_cells X_w0.out
  replace X_x0 := Lib.hid (box_below X_x0.out hb (by omega))
  replace x_x0 := box_cells X_x0.out
  replace X_g0 := Lib.hid (box_below X_g0.out hb (by omega))
  replace x_g0 := box_cells X_g0.out
  replace s_w0 := s_w0.below hb (by omega)
  replace s_x0 := s_x0.below hb (by omega)
  replace s_g0 := s_g0.below hb (by omega)
  replace s_t3 := s_t3.below hb (by omega)
  replace BB : Below w.heap.size w w12 := BB.trans (hb.mono (by omega))
  clear hb
  clear hc0
  have s_h0 := Sl.of hM
  clear hM
  clear s_t3
  have hA : Below w12.heap.size w12 (w12.alloc (.cells #[.slice a_h0 n c_h0] 24)) := (Below.refl _ _).alloc (Nat.le_refl _) _
  replace X_aS := Lib.hid (box_below X_aS.out hA (by omega))
  replace x_aS := box_cells X_aS.out
  replace X_w0 := Lib.hid (box_below X_w0.out hA (by omega))
  replace x_w0 := box_cells X_w0.out
  replace X_x0 := Lib.hid (box_below X_x0.out hA (by omega))
  replace x_x0 := box_cells X_x0.out
  replace X_g0 := Lib.hid (box_below X_g0.out hA (by omega))
  replace x_g0 := box_cells X_g0.out
  have X_h0 := Lib.hid (box_new w12 (.cells #[.slice a_h0 n c_h0] 24))
  have x_h0 := box_cells X_h0.out
  replace s_w0 := s_w0.below hA (by omega)
  replace s_x0 := s_x0.below hA (by omega)
  replace s_g0 := s_g0.below hA (by omega)
  replace s_h0 := s_h0.below hA (by omega)
  replace BB := BB.trans (hA.mono (by omega))
  clear hA
  go_wp2_with fail
  generalize hv : w12.alloc (.cells #[.slice a_h0 n c_h0] 24) = v4 at *
  have hs_v4 : v4.heap.size = w12.heap.size + 1 := by rw [← hv]; simp
  clear hv
  refine (eqLayout_same a_h0 a_w0 n c_h0 c_w0 rl _ s_h0.at s_w0.at HRL.out (by omega)).mono ?_
  rintro e w13 ⟨rfl, hb⟩
  have hz13 : v4.heap.size ≤ w13.heap.size := hb.size
  replace X_aS := Lib.hid (box_below X_aS.out hb (by omega))
  replace x_aS := box_cells X_aS.out
  replace X_w0 := Lib.hid (box_below X_w0.out hb (by omega))
  replace x_w0 := box_cells X_w0.out
  replace X_x0 := Lib.hid (box_below X_x0.out hb (by omega))
  replace x_x0 := box_cells X_x0.out
  replace X_g0 := Lib.hid (box_below X_g0.out hb (by omega))
  replace x_g0 := box_cells X_g0.out
  replace X_h0 := Lib.hid (box_below X_h0.out hb (by omega))
  replace x_h0 := box_cells X_h0.out
  replace s_w0 := s_w0.below hb (by omega)
  replace s_x0 := s_x0.below hb (by omega)
  replace s_g0 := s_g0.below hb (by omega)
  replace s_h0 := s_h0.below hb (by omega)
  replace BB : Below w.heap.size w w13 := BB.trans (hb.mono (by omega))
  clear hb
  go_wp2_with fail
  refine (heldLayout_any a_g0 n c_g0 1 _ s_g0.at (by omega) (by omega)).mono ?_
  rintro e w14 ⟨rfl, hb⟩
  have hz14 : w13.heap.size ≤ w14.heap.size := hb.size
  replace X_aS := Lib.hid (box_below X_aS.out hb (by omega))
  replace x_aS := box_cells X_aS.out
  replace X_w0 := Lib.hid (box_below X_w0.out hb (by omega))
  replace x_w0 := box_cells X_w0.out
  replace X_x0 := Lib.hid (box_below X_x0.out hb (by omega))
  replace x_x0 := box_cells X_x0.out
  replace X_g0 := Lib.hid (box_below X_g0.out hb (by omega))
  replace x_g0 := box_cells X_g0.out
  replace X_h0 := Lib.hid (box_below X_h0.out hb (by omega))
  replace x_h0 := box_cells X_h0.out
  replace s_w0 := s_w0.below hb (by omega)
  replace s_x0 := s_x0.below hb (by omega)
  replace s_g0 := s_g0.below hb (by omega)
  replace s_h0 := s_h0.below hb (by omega)
  replace BB : Below w.heap.size w w14 := BB.trans (hb.mono (by omega))
  clear hb
  go_wp2_with fail
  go_ret
  exact ⟨rfl, BB⟩
end Go.Proofs.Ytepamcfaiahmbaa
