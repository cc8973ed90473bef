/-
  Contracts of toAction, szAction and eqAction of the laws. Conditions: bounds on lengths.
-/
import Derived.Test.YtfflmmkkgcijgaaDoorSlices
import Derived.Test.YtfflmmkkgcijgaaDoorIn
namespace Go.Proofs.YtfflmmkkgcijgaaDoor
open Go.ChangeShapes Go.WideShapes Go.ChangeAt Go.RowKit
set_option linter.unusedVariables false
set_option linter.unusedSimpArgs false
set_option maxRecDepth 20000

theorem boxes3 (w : World) (o1 o2 o3 : Obj) : (((w.alloc o1).alloc o2).alloc o3).heap[w.heap.size]? = some o1 ∧ (((w.alloc o1).alloc o2).alloc o3).heap[w.heap.size + 1]? = some o2 ∧ (((w.alloc o1).alloc o2).alloc o3).heap[w.heap.size + 2]? = some o3 := by
  have e1 : (w.alloc o1).heap.size = w.heap.size + 1 := by simp
  have e2 : ((w.alloc o1).alloc o2).heap.size = w.heap.size + 2 := by simp
  refine ⟨?_, ?_, ?_⟩
  · exact (Below.heap_alloc _ _ _ (by omega)).trans ((Below.heap_alloc _ _ _ (by omega)).trans (heap_alloc_new w _))
  · rw [← e1]; exact (Below.heap_alloc _ _ _ (by omega)).trans (heap_alloc_new _ _)
  · rw [← e2]; exact heap_alloc_new _ _

theorem Mine.set_other {B : Nat} {w : World} {a : Option Addr} {xs : List Value} (h : Mine B w a xs) {p : Addr} (hp : p.block < B) (v : Value) : Mine B (w.setCell p v) a xs := by
  rcases h with h | ⟨b, off, e, hB, h⟩
  · exact .inl h
  · refine .inr ⟨b, off, e, hB, fun i hi => ?_⟩
    have hne : p ≠ ⟨b, off + i, none⟩ := by intro h2; subst h2; exact absurd hp (Nat.not_lt.2 hB)
    rw [World.cell?_setCell_other _ _ _ _ hne, World.frozen?_setCell]
    exact h i hi

theorem toAction_any (kd n : Int) (pv : Bool) (ao : Option Addr) (len cap : Nat) (zs : List Int) (tx : ByteArray) (w : World) (ha : At w ao (i64s zs)) (hl : zs.length = len) (hn : len ≤ 16777216) :
    Calls Tryd.prog 12 #[.agg #[.int .i64 kd, .int .i64 n, .bool pv, .slice ao len cap, .string tx]] w fun e w' => ∃ a' c', e = .returned (.agg #[.int .i64 kd, .int .i64 n, .bool pv, .slice a' len c', .string tx]) ∧ Mine w.heap.size w' a' (i64s zs) ∧ Below w.heap.size w w' := by
  have hb0 : ∀ o1 o2 o3, Below w.heap.size w (((w.alloc o1).alloc o2).alloc o3) := fun o1 o2 o3 => (((Below.refl _ _).alloc (Nat.le_refl _) _).alloc (by simp) _).alloc (by simp; omega) _
  go_enter Tryd.func12, Tryd.ntmps12
  go_wp2_with fail
  refine (toIntS_any ao len cap zs _ (ha.below (hb0 _ _ _) (Nat.le_refl _)) hl hn).mono ?_
  rintro e w1 ⟨a1, c1, rfl, hm1, hb1⟩
  have HM := Lib.hid (hm1.mono (B' := w.heap.size + 3) (by simp <;> omega))
  obtain ⟨g1, g2, g3⟩ := boxes3 w (.cells #[.int .i64 kd, .int .i64 n, .bool pv, .slice ao len cap, .string tx] 37) (.cells #[.int .i64 0, .int .i64 0, .bool false, .slice none 0 0, .string ⟨#[]⟩] 40) (.cells #[.int .i64 kd, .int .i64 n, .bool pv, .slice none 0 0, .string ⟨#[]⟩] 40)
  have x1 := box_cells (box_below g1 hb1 (by simp <;> omega))
  have y1 := box_cells (box_below g2 hb1 (by simp <;> omega))
  have z1 := box_cells (box_below g3 hb1 (by simp <;> omega))
  have fy := box_free (box_below g2 hb1 (by simp <;> omega))
  have fz := box_free (box_below g3 hb1 (by simp <;> omega))
  have B1 : Below w.heap.size w w1 := (hb0 _ _ _).trans (hb1.mono (by simp; omega))
  clear g1 g2 g3 hm1 hb1 ha hl
  go_wp2
  refine bodyPost_ret (v := .agg #[.int .i64 kd, .int .i64 n, .bool pv, .slice a1 len c1, .string tx]) (by simp [results, Tryd.results12, y1, go_sem]) rfl ⟨a1, c1, rfl, ?_, ?_⟩
  · exact (((((((HM.out.set_other (by dsimp only; omega) _).set_other (by dsimp only; omega) _).set_other (by dsimp only; omega) _).set_other (by dsimp only; omega) _).set_other (by dsimp only; omega) _).set_other (by dsimp only; omega) _).set_other (by dsimp only; omega) _).mono (by omega)
  · exact ((((((B1.setCell (by dsimp only; omega) _).setCell (by dsimp only; omega) _).setCell (by dsimp only; omega) _).setCell (by dsimp only; omega) _).setCell (by dsimp only; omega) _).setCell (by dsimp only; omega) _).setCell (by dsimp only; omega) _

theorem szAction_any (kd n : Int) (pv : Bool) (ao : Option Addr) (len cap : Nat) (tx : ByteArray) (w : World) (hn : len ≤ maxLen) (ht : tx.size ≤ maxLen) :
    Calls Tryd.prog 10 #[.agg #[.int .i64 kd, .int .i64 n, .bool pv, .slice ao len cap, .string tx], .int .i64 1048576] w fun e w' => ∃ r : Int, e = .returned (.int .i64 r) ∧ (0 ≤ r → len ≤ 1048576 ∧ tx.size ≤ 1048576) ∧ Below w.heap.size w w' := by
  unfold maxLen at hn ht
  have hs : ∀ w, Calls Tryd.prog 27 #[.slice ao len cap, .int .i64 1048576] w fun e w' => ∃ r : Int, e = .returned (.int .i64 r) ∧ (0 ≤ r → len ≤ 1048576 ∧ r = 1048576 - len) ∧ w = w' ∧ -1 ≤ r ∧ r ≤ 1048576 := fun w => by
    go_enter Tryd.func27, Tryd.ntmps27
    go_wp2
    all_goals go_ret
    all_goals exact ⟨_, rfl, by omega, rfl, by omega, by omega⟩
  have HS := Lib.hid hs
  clear hs
  go_enter Tryd.func10, Tryd.ntmps10
  go_wp2_with fail
  refine (HS.out _).mono ?_
  rintro e w1 ⟨r, rfl, hr, rfl, hr1, hr2⟩
  have HR := Lib.hid hr
  clear hr
  go_wp2
  all_goals go_ret
  all_goals refine ⟨_, rfl, ?_, (Below.refl _ _).alloc (Nat.le_refl _) _⟩
  all_goals (intro h; have := HR.out; omega)

theorem eqAction_same (kd n : Int) (pv : Bool) (a b : Option Addr) (len c c' : Nat) (zs : List Int) (tx : ByteArray) (w : World) (ha : At w a (i64s zs)) (hb : At w b (i64s zs)) (hl : zs.length = len) (hn : len ≤ maxLen) :
    Calls Tryd.prog 14 #[.agg #[.int .i64 kd, .int .i64 n, .bool pv, .slice a len c, .string tx], .agg #[.int .i64 kd, .int .i64 n, .bool pv, .slice b len c', .string tx]] w fun e w' => e = .returned (.bool true) ∧ Below w.heap.size w w' := by
  have hb0 : ∀ o1 o2, Below w.heap.size w ((w.alloc o1).alloc o2) := fun o1 o2 => ((Below.refl _ _).alloc (Nat.le_refl _) _).alloc (by simp) _
  have hb1 : ∀ o1 o2, w.heap.size ≤ ((w.alloc o1).alloc o2).heap.size := fun o1 o2 => (hb0 o1 o2).size
  have g1 : ∀ o1 o2, ((w.alloc o1).alloc o2).heap[w.heap.size]? = some o1 := fun o1 o2 => (Below.heap_alloc _ _ _ (by simp)).trans (heap_alloc_new w _)
  have g2 : ∀ o1 o2, ((w.alloc o1).alloc o2).heap[w.heap.size + 1]? = some o2 := fun o1 o2 => by
    have e1 : (w.alloc o1).heap.size = w.heap.size + 1 := by simp
    rw [← e1]; exact heap_alloc_new _ _
  have G1 := Lib.hid g1
  have G2 := Lib.hid g2
  have HA := Lib.hid (fun o1 o2 => ha.below (hb0 o1 o2) (Nat.le_refl _))
  have HB := Lib.hid (fun o1 o2 => hb.below (hb0 o1 o2) (Nat.le_refl _))
  have H0 := Lib.hid hb0
  have HL := Lib.hid hl
  clear g1 g2 hb0 hb1 ha hb hl
  go_enter Tryd.func14, Tryd.ntmps14
  go_wp2_with fail
  refine (eqIntS_same a b len c c' zs _ (HA.out _ _) (HB.out _ _) HL.out hn).mono ?_
  rintro e w1 ⟨rfl, hb1⟩
  have x1 := box_cells (box_below (G1.out (.cells #[.int .i64 kd, .int .i64 n, .bool pv, .slice a len c, .string tx] 40) (.cells #[.int .i64 kd, .int .i64 n, .bool pv, .slice b len c', .string tx] 40)) hb1 (by simp <;> omega))
  have x2 := box_cells (box_below (G2.out (.cells #[.int .i64 kd, .int .i64 n, .bool pv, .slice a len c, .string tx] 40) (.cells #[.int .i64 kd, .int .i64 n, .bool pv, .slice b len c', .string tx] 40)) hb1 (by simp <;> omega))
  have B1 : Below w.heap.size w w1 := (H0.out _ _).trans (hb1.mono (by simp <;> omega))
  clear hb1
  go_wp2
  go_ret
  exact ⟨rfl, B1⟩
end Go.Proofs.YtfflmmkkgcijgaaDoor
