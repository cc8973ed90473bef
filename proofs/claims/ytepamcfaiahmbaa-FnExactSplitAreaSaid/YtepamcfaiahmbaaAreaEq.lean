/-
  Contracts of the helpers of the laws' package at layouts' areas. Conditions: bounds on lengths.
-/
import Derived.Test.YtepamcfaiahmbaaAreaMark
import Derived.Test.YtepamcfaiahmbaaSlices
import Derived.StillTailTactics
namespace Go.Proofs.Ytepamcfaiahmbaa
open Go.ChangeShapes Go.WideShapes Go.ChangeAt Go.RowKit
set_option linter.unusedVariables false
set_option linter.unusedSimpArgs false
set_option maxRecDepth 100000

theorem eqArea_same (pane x y ww hh : Int) (w : World) :
    Calls Try.prog 50 #[.agg #[.int .i64 pane, .int .i64 x, .int .i64 y, .int .i64 ww, .int .i64 hh], .agg #[.int .i64 pane, .int .i64 x, .int .i64 y, .int .i64 ww, .int .i64 hh]] w fun e w' => e = .returned (.bool true) ∧ Below w.heap.size w w' := by
  go_enter Try.func50, Try.ntmps50
  go_wp2
  go_ret
  exact ⟨rfl, ((Below.refl _ _).alloc (Nat.le_refl _) _).alloc (by simp) _⟩
set_option maxHeartbeats 1000000 in
theorem eqAreaS_same (a b : Option Addr) (n c c' : Nat) (l : List AreaV) (w : World) (ha : At w a (areasV l)) (hb : At w b (areasV l)) (hl : l.length = n) (hn : n ≤ 16777216) :
    Calls Try.prog 23 #[.slice a n c, .slice b n c'] w fun e w' => e = .returned (.bool true) ∧ Below w.heap.size w w' := by
  have HL := Lib.hid hl
  clear hl
  go_enter Try.func23, Try.ntmps23
  go_wp2
  go_loopw [5] (fun i wr => ∃ k : Nat, k ≤ n ∧ i = .int .i64 k ∧ Below w.heap.size w wr) (fun i _ => n - (intOf i).toNat)
  case atStart => exact ⟨0, Nat.zero_le _, rfl, Below.refl _ _⟩
  case round =>
    obtain ⟨k, hk, rfl, hbel⟩ := hrel
    by_cases hkt : k < n
    · obtain ⟨p, hp⟩ : ∃ p, l[k]? = some p := ⟨l[k]'(by have := HL.out; omega), List.getElem?_eq_getElem _⟩
      obtain ⟨b1, o1, rfl, c0, c1, c2, c3, c4⟩ := (ha.below hbel (Nat.le_refl _)).area hp
      obtain ⟨b2, o2, rfl, d0, d1, d2, d3, d4⟩ := (hb.below hbel (Nat.le_refl _)).area hp
      obtain ⟨pane, x, y, ww, hh⟩ := p
      simp only at c0 c1 c2 c3 c4 d0 d1 d2 d3 d4
      have i1 : (0 : Int) ≤ (k : Int) := by omega
      have i2 : (k : Int) < (n : Int) := by omega
      clear ha hb hp
      go_wp2
      refine wp_region_still_tail 8 (by kernel_rfl) (by kernel_rfl) ?_
      simp only [List.take_succ_cons, List.take_zero, List.drop_succ_cons, List.drop_zero]
      repeat still_step
      refine wpStill_nil ?_
      change wpList _ _ _ _ _ wr.drew
      go_wp2_with fail
      refine (eqArea_same pane x y ww hh _).mono ?_
      rintro e w1 ⟨rfl, hb1⟩
      have hb2 : Below wr.heap.size wr.drew w1 := hb1
      have B1 : Below w.heap.size w w1 := hbel.drew.trans (hb2.mono hbel.size)
      clear hb1 hb2 c0 c1 c2 c3 c4 d0 d1 d2 d3 d4
      go_wp2
      go_roundw
      case rel => exact ⟨k + 1, by omega, by go_num, B1⟩
      case measure => simp [intOf]; omega
    · go_wp2
      go_ret
      exact ⟨rfl, hbel⟩

end Go.Proofs.Ytepamcfaiahmbaa
