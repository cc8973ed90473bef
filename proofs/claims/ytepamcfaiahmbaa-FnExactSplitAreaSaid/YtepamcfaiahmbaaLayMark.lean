/-
  Contracts of the laws' helpers that mark and look at layouts. Conditions: bounds on lengths.
-/
import Derived.Test.YtepamcfaiahmbaaPartMark
namespace Go.Proofs.Ytepamcfaiahmbaa
open Go.ChangeShapes Go.WideShapes Go.ChangeAt Go.RowKit
set_option linter.unusedVariables false
set_option linter.unusedSimpArgs false
set_option maxRecDepth 100000

theorem heldLayout_any (ao : Option Addr) (n c : Nat) (k0 : Nat) (w : World) (hm : At w ao (partsV (marksPart k0 n))) (hn : n ≤ 16777216) (hk : k0 ≤ 1099511627776) :
    Calls Try.prog 16 #[.agg #[.slice ao n c], .int .i64 k0] w fun e w' => e = .returned (.int .i64 ((k0 : Int) + 5 * (n : Int))) ∧ Below w.heap.size w w' := by
  have HB : Hid (Below w.heap.size w (w.alloc (.cells #[.slice ao n c] 24))) := (Below.refl _ _).alloc (Nat.le_refl _) _
  have HM := Lib.hid (hm.below HB.out (Nat.le_refl _))
  clear hm
  go_enter Try.func16, Try.ntmps16
  go_wp2_with fail
  refine (heldPartS_any ao n c k0 _ HM.out hn hk).mono ?_
  rintro e w1 ⟨rfl, rfl⟩
  go_wp2
  all_goals try (exfalso; omega)
  all_goals
    go_ret
    exact ⟨rfl, HB.out⟩
theorem markLayout_sl (B C : Nat) (ao : Option Addr) (n c : Nat) (l : List PartV) (k0 : Nat) (w : World) (hm : Sl B C w ao (partsV l)) (hC : C ≤ w.heap.size) (hl : l.length = n) (hn : n ≤ 16777216) (hk : k0 ≤ 1099511627776) (hB : B ≤ w.heap.size) :
    Calls Try.prog 15 #[.agg #[.slice ao n c], .int .i64 k0] w fun e w' => e = .returned (.int .i64 ((k0 : Int) + 5 * (n : Int))) ∧ Sl B C w' ao (partsV (marksPart k0 n)) ∧ Chg B C w w' := by
  have HB : Hid (Below w.heap.size w (w.alloc (.cells #[.slice ao n c] 24))) := (Below.refl _ _).alloc (Nat.le_refl _) _
  have HM := Lib.hid (hm.below HB.out hC)
  have HC0 : Hid (Chg B C w (w.alloc (.cells #[.slice ao n c] 24))) := ⟨HB.out.mono hB, fun k _ hk => Below.heap_alloc _ _ _ hk⟩
  have HL := Lib.hid hl
  clear hm hl
  go_enter Try.func15, Try.ntmps15
  go_wp2_with fail
  refine (markPartS_sl B C ao n c l k0 _ HM.out HL.out hn hk (by simp <;> omega)).mono ?_
  rintro e w1 ⟨rfl, hs, hc⟩
  go_wp2
  go_ret
  exact ⟨rfl, hs, HC0.out.below.trans hc.below, fun k h1 h2 => (hc.above k h1 (by simp; omega)).trans (HC0.out.above k h1 h2)⟩
end Go.Proofs.Ytepamcfaiahmbaa
