/-
  The walk of the law FnExactActionText of the given program. No condition.
-/
import Derived.Test.YtfflmmkkgcijgaaDoorActTx
import Derived.Test.YtfflmmkkgcijgaaDoorActTo
import Derived.Deep.RegionHeld3
namespace Go.Proofs.YtfflmmkkgcijgaaDoor
open Go.ChangeShapes Go.WideShapes Go.ChangeAt Go.RowKit
set_option linter.unusedVariables false
set_option linter.unusedSimpArgs false

set_option maxHeartbeats 2000000 in
set_option maxRecDepth 100000 in
theorem walk_FnExactActionText (w : World) (kd : Int) (_ : (Lit.int .i64 kd).wf = true) (n : Int) (_ : (Lit.int .i64 n).wf = true) (pv : Bool) (ao : Option Addr) (len cap : Nat) (zs : List Int) (ha : At w ao (i64s zs)) (hl : zs.length = len) (hn : len ≤ maxLen) (_ : ∀ n ∈ zs, (Lit.int .i64 n).wf = true) (tx : ByteArray) (ht : tx.size ≤ maxLen) (hg : Pow w) :
    Calls Tryd.prog 4 #[.agg #[.int .i64 kd, .int .i64 n, .bool pv, .slice ao len cap, .string tx]] w fun e w' => e = .returned (.bool true) ∧ Below w.heap.size w w' := by
  have HL := Lib.hid hl
  have HG := Lib.hid hg
  obtain ⟨g, c, hR⟩ : ∃ g c, actTR kd n pv zs tx = (g, c) := ⟨_, _, rfl⟩
  have HR := Lib.hid hR
  clear hR hl hg

  go_enter Tryd.func4, Tryd.ntmps4
  have B0 : Below w.heap.size w (w.alloc (.cells #[.int .i64 kd, .int .i64 n, .bool pv, .slice ao len cap, .string tx] 37)) := (Below.refl _ _).alloc (Nat.le_refl _) _
  go_wp2_with fail
  refine (szAction_any kd n pv ao len cap tx _ hn ht).mono ?_
  rintro e w1 ⟨r, rfl, hr, hb1⟩
  have hz1 : w.heap.size + 1 ≤ w1.heap.size := by have := hb1.size; simpa using this
  have B1 : Below w.heap.size w w1 := B0.trans (hb1.mono (by simp))
  have X1 := Lib.hid (box_below (box_new w (.cells #[.int .i64 kd, .int .i64 n, .bool pv, .slice ao len cap, .string tx] 37)) hb1 (by simp))
  have x1 := box_cells X1.out
  by_cases hneg : r < 0
  · clear hr
    go_wp2
    go_ret
    exact ⟨rfl, B1⟩
  have hfit := hr (by omega)
  clear hr
  go_wp2_with fail
  refine (toAction_any kd n pv ao len cap zs tx _ (ha.below B1 (Nat.le_refl _)) HL.out (by omega)).mono ?_
  rintro e w2 ⟨a_t, c_t, rfl, h_t, hb2⟩
  have hz2 := hb2.size
  have B2 : Below w.heap.size w w2 := B1.trans (hb2.mono (by omega))
  have s_t := Sl.of h_t
  have X2 := Lib.hid (box_below X1.out hb2 (by omega))
  have x2 := box_cells X2.out
  clear x1 X1
  go_wp2_with fail
  refine (specActText_any kd n pv a_t len c_t zs tx g c _ s_t.at HL.out hn ht HR.out).mono ?_
  rintro e w3 ⟨rfl, hb3⟩
  have hz3 := hb3.size
  have B3 : Below w.heap.size w w3 := B2.trans (hb3.mono (by omega))
  have X3 := Lib.hid (box_below X2.out hb3 (by omega))
  have x3 := box_cells X3.out
  clear x2 X2
  go_wp2_with fail
  refine (toAction_any kd n pv ao len cap zs tx _ (ha.below B3 (Nat.le_refl _)) HL.out (by omega)).mono ?_
  rintro e w4 ⟨a_x, c_x, rfl, h_x, hb4⟩
  have hz4 := hb4.size
  have B4 : Below w.heap.size w w4 := B3.trans (hb4.mono (by omega))
  have s_x := Sl.of h_x
  have X4 := Lib.hid (box_below X3.out hb4 (by omega))
  have x4 := box_cells X4.out
  clear x3 X3 hb1 hb2 hb3 hb4 h_t s_t h_x
  have B4' : Below w.heap.size w (w4.alloc (.cells #[.int .i64 kd, .int .i64 n, .bool pv, .slice a_x len c_x, .string tx] 40)) := B4.alloc B4.size _
  have hA4 : Below w4.heap.size w4 (w4.alloc (.cells #[.int .i64 kd, .int .i64 n, .bool pv, .slice a_x len c_x, .string tx] 40)) := (Below.refl _ _).alloc (Nat.le_refl _) _
  have s_y := s_x.below hA4 (by omega)
  go_wp2_with fail
  refine (implActText_any kd n pv a_x len c_x zs tx g c _ s_y.at HL.out hn ht HR.out (HG.out.below B4' (Nat.le_refl _))).mono ?_
  rintro e w5 ⟨rfl, hb5⟩
  have hz5 : w4.heap.size + 1 ≤ w5.heap.size := by have := hb5.size; simpa using this
  have B5 : Below w.heap.size w w5 := B4'.trans (hb5.mono (by simp <;> omega))
  have X5 := Lib.hid (box_below ((Below.heap_alloc w4 _ w.heap.size (by omega)).trans X4.out) hb5 (by simp <;> omega))
  have x5 := box_cells X5.out
  have Y5 := Lib.hid (box_below (box_new w4 (.cells #[.int .i64 kd, .int .i64 n, .bool pv, .slice a_x len c_x, .string tx] 40)) hb5 (by simp))
  have y5 := box_cells Y5.out
  have s_z := s_y.below hb5 (by simp <;> omega)
  clear x4 X4 hb5 hA4 B4' s_x s_y
  generalize hxb : w4.heap.size = xb at *
  clear hxb
  have hxw : w.heap.size < w5.heap.size := by omega
  have hxv : xb < w5.heap.size := by omega
  have s_v : Sl _ _ w5.drew a_x (i64s zs) := s_z
  go_wp2_with fail
  go_region_held3 (fun w' => (∀ i, w'.cell? ⟨w.heap.size, i, none⟩ = (#[.int .i64 kd, .int .i64 n, .bool pv, .slice ao len cap, .string tx] : Array Value)[i]?) ∧ (∀ i, w'.cell? ⟨xb, i, none⟩ = (#[.int .i64 kd, .int .i64 n, .bool pv, .slice a_x len c_x, .string tx] : Array Value)[i]?)) (first | with_reducible exact ⟨x7, y7⟩ | with_reducible exact ⟨x6, y6⟩ | exact ⟨x5, y5⟩)
    (first
    | (go_at_call 12; refine (toAction_any kd n pv ao len cap zs tx _ (ha.below B5.drew (Nat.le_refl _)) HL.out (by omega)).mono ?_; rintro e w6 ⟨a_u, c_u, rfl, h_u, hb6⟩; have hz6 : w5.heap.size ≤ w6.heap.size := hb6.size; have B6 : Below w.heap.size w w6 := B5.drew.trans (hb6.mono (by exact B5.size)); have x6 := cells_below (W := w5.drew) x5 hb6 (by exact hxw); have y6 := cells_below (W := w5.drew) y5 hb6 (by exact hxv); have s_q := s_v.below (D := w5.heap.size) hb6 (by omega))
    | (go_at_call 14; refine (eqAction_same kd n pv a_x a_u len c_x c_u zs tx _ s_q.at h_u.at HL.out hn).mono ?_; rintro e w7 ⟨rfl, hb7⟩; have B7 : Below w.heap.size w w7 := B6.trans (hb7.mono (by exact B6.size)); have x7 := cells_below x6 hb7 (by omega); have y7 := cells_below y6 hb7 (by omega))
    | fail)
  rename_i hh
  clear hh
  go_wp2
  go_ret
  exact ⟨rfl, B7⟩
end Go.Proofs.YtfflmmkkgcijgaaDoor
