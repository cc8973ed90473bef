/-
  Contracts of NewScreen and of what makes new screens, of the given program and of its reference. No condition.
-/
import Derived.Test.YtfpbboldfilhlaaDoorScrMark
import Derived.Test.YtfpbboldfilhlaaDoorScrPlain
namespace Go.Proofs.YtfpbboldfilhlaaDoor
open Go.ChangeShapes Go.WideShapes Go.ChangeAt Go.RowKit
set_option linter.unusedVariables false
set_option linter.unusedSimpArgs false
set_option maxRecDepth 20000
attribute [local irreducible] wpList

theorem blank_any (w : World) : Calls Tryd.prog 39 #[] w fun e w' => e = .returned (.agg #[.int .i64 32, .int .i64 0]) ∧ Below w.heap.size w w' := by
  go_enter Tryd.func39, Tryd.ntmps39
  go_wp2
  exact bodyPost_ret (v := .agg #[.int .i64 32, .int .i64 0]) (by simp [results, Tryd.results39, go_sem]) rfl ⟨rfl, by first | exact (((Below.refl _ _).alloc (Nat.le_refl _) _).setCell (Nat.le_refl _) _).setCell (Nat.le_refl _) _ | exact (Below.refl _ _).alloc (Nat.le_refl _) _⟩
theorem blanks_any (z : Int) (n : Nat) (w : World) (hz : z = (n : Int)) (hn1 : 1 ≤ n) (hn : n ≤ 1048576) :
    Calls Tryd.prog 19 #[.int .i64 z] w fun e w' => ∃ ao cap, e = .returned (.slice ao n cap) ∧ n ≤ cap ∧ Mine w.heap.size w' ao (cellsV (List.replicate n (32, 0))) ∧ Below w.heap.size w w' := by
  subst hz
  go_enter Tryd.func19, Tryd.ntmps19
  go_wp2_with fail
  refine (blank_any _).mono ?_
  rintro e w1 ⟨rfl, hb1⟩
  have g := heap_alloc_new w1 (.cells #[.int .i64 32, .int .i64 0] 57)
  have c0 : (w1.alloc (.cells #[.int .i64 32, .int .i64 0] 57)).cell? ⟨w1.heap.size, 0, none⟩ = some (.int .i64 32) := box_cells g 0
  have c1 : (w1.alloc (.cells #[.int .i64 32, .int .i64 0] 57)).cell? ((⟨w1.heap.size, 0, none⟩ : Addr).add 1) = some (.int .i64 0) := box_cells g 1
  have G0 := Lib.hid c0
  have G1 := Lib.hid c1
  have B1 : Below w.heap.size w (w1.alloc (.cells #[.int .i64 32, .int .i64 0] 57)) := hb1.alloc hb1.size _
  have hz := hb1.size
  clear g c0 c1 hb1
  go_wp2_with fail
  refine (repeatCell_any 32 0 ⟨w1.heap.size, 0, none⟩ 1 n _ G0.out G1.out hn1 hn).mono ?_
  rintro e w2 ⟨ao, cap, rfl, hcap, hm, hb2⟩
  have HM := Lib.hid (hm.mono (B' := w.heap.size) (by simp; omega))
  have B2 : Below w.heap.size w w2 := B1.trans (hb2.mono (by simp; omega))
  clear G0 G1 B1 hm hb2
  go_wp2
  go_ret
  exact ⟨ao, cap, rfl, hcap, HM.out, B2⟩
/-- what the twelve stores into a block leave as it was -/
theorem set12_mine {B b : Nat} {w : World} {a : Option Addr} {xs : List Value} (h : Mine B w a xs) (hb : b < B) (v0 v1 v2 v3 v4 v5 v6 v7 v8 v9 v10 v11 : Value) :
    Mine B ((((((((((((w.setCell ⟨b, 0, none⟩ v0).setCell ⟨b, 1, none⟩ v1).setCell ⟨b, 2, none⟩ v2).setCell ⟨b, 3, none⟩ v3).setCell ⟨b, 4, none⟩ v4).setCell ⟨b, 5, none⟩ v5).setCell ⟨b, 6, none⟩ v6).setCell ⟨b, 7, none⟩ v7).setCell ⟨b, 8, none⟩ v8).setCell ⟨b, 9, none⟩ v9).setCell ⟨b, 10, none⟩ v10).setCell ⟨b, 11, none⟩ v11) a xs :=
  (((((((((((h.set_other hb _).set_other hb _).set_other hb _).set_other hb _).set_other hb _).set_other hb _).set_other hb _).set_other hb _).set_other hb _).set_other hb _).set_other hb _).set_other hb _
theorem set12_below {B b : Nat} {w W : World} (h : Below B w W) (hb : B ≤ b) (v0 v1 v2 v3 v4 v5 v6 v7 v8 v9 v10 v11 : Value) :
    Below B w ((((((((((((W.setCell ⟨b, 0, none⟩ v0).setCell ⟨b, 1, none⟩ v1).setCell ⟨b, 2, none⟩ v2).setCell ⟨b, 3, none⟩ v3).setCell ⟨b, 4, none⟩ v4).setCell ⟨b, 5, none⟩ v5).setCell ⟨b, 6, none⟩ v6).setCell ⟨b, 7, none⟩ v7).setCell ⟨b, 8, none⟩ v8).setCell ⟨b, 9, none⟩ v9).setCell ⟨b, 10, none⟩ v10).setCell ⟨b, 11, none⟩ v11) :=
  (((((((((((h.setCell (p := ⟨b, 0, none⟩) hb _).setCell (p := ⟨b, 1, none⟩) hb _).setCell (p := ⟨b, 2, none⟩) hb _).setCell (p := ⟨b, 3, none⟩) hb _).setCell (p := ⟨b, 4, none⟩) hb _).setCell (p := ⟨b, 5, none⟩) hb _).setCell (p := ⟨b, 6, none⟩) hb _).setCell (p := ⟨b, 7, none⟩) hb _).setCell (p := ⟨b, 8, none⟩) hb _).setCell (p := ⟨b, 9, none⟩) hb _).setCell (p := ⟨b, 10, none⟩) hb _).setCell (p := ⟨b, 11, none⟩) hb _

set_option maxHeartbeats 1000000 in
set_option maxRecDepth 100000 in
theorem newScreen_any (wd ht : Int) (n : Nat) (w : World) (hs : sizeB wd ht = true) (hn : wd * ht = (n : Int)) :
    Calls Tryd.prog 10 #[.int .i64 wd, .int .i64 ht] w fun e w' => ∃ ao cap, e = .returned (.agg #[.int .i64 wd, .int .i64 ht, .int .i64 0, .int .i64 0, .int .i64 0, .int .i64 0, .int .i64 (ht - 1), .int .i64 0, .int .i64 0, .string ⟨#[]⟩, .slice ao n cap, .slice none 0 0]) ∧ n ≤ cap ∧ Mine w.heap.size w' ao (cellsV (List.replicate n (32, 0))) ∧ Below w.heap.size w w' := by
  obtain ⟨b1, b2, b3, b4, b5, b6⟩ := size_facts hs
  have hn1 : 4 ≤ n := by
    have := Int.mul_le_mul b1 b3 (by omega) (by omega)
    omega
  have HN := Lib.hid hn
  have hb0 : Below w.heap.size w (w.alloc (.cells #[.int .i64 0, .int .i64 0, .int .i64 0, .int .i64 0, .int .i64 0, .int .i64 0, .int .i64 0, .int .i64 0, .int .i64 0, .string ⟨#[]⟩, .slice none 0 0, .slice none 0 0] 27)) := (Below.refl _ _).alloc (Nat.le_refl _) _
  clear hs hn
  go_enter Tryd.func10, Tryd.ntmps10
  go_wp2_with fail
  refine (blanks_any _ n _ HN.out (by omega) (by have := HN.out; omega)).mono ?_
  rintro e w1 ⟨ao, cap, rfl, hcap, hm, hb1⟩
  have hz1 : w.heap.size + 1 ≤ w1.heap.size := by have := hb1.size; simpa using this
  have HM : Hid (Mine (w.heap.size + 1) w1 ao (cellsV (List.replicate n (32, 0)))) := by have := hm; simp at this; exact this
  have X1 := box_below (box_new w (.cells #[.int .i64 0, .int .i64 0, .int .i64 0, .int .i64 0, .int .i64 0, .int .i64 0, .int .i64 0, .int .i64 0, .int .i64 0, .string ⟨#[]⟩, .slice none 0 0, .slice none 0 0] 27)) hb1 (by simp)
  have x1 := box_cells X1
  have f1 := box_free X1
  have B1 : Below w.heap.size w w1 := hb0.trans (hb1.mono (by simp))
  clear X1 hm hb1 hb0
  go_wp2
  exact bodyPost_ret (v := .agg #[.int .i64 wd, .int .i64 ht, .int .i64 0, .int .i64 0, .int .i64 0, .int .i64 0, .int .i64 (ht - 1), .int .i64 0, .int .i64 0, .string ⟨#[]⟩, .slice ao n cap, .slice none 0 0]) (by simp [results, Tryd.results10, x1, go_sem]) rfl ⟨ao, cap, rfl, hcap, (set12_mine HM.out (by omega) _ _ _ _ _ _ _ _ _ _ _ _).mono (by omega), set12_below B1 (by omega) _ _ _ _ _ _ _ _ _ _ _ _⟩
end Go.Proofs.YtfpbboldfilhlaaDoor
