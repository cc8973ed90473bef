/-
  The walk of the law FnExactCheck32 of the given program. No condition.
-/
import Derived.Test.YthbjkmcpnhfimaaCrc
namespace Go.Proofs.Ythbjkmcpnhfimaa
open Go.ChangeShapes Go.WideShapes Go.ChangeAt Go.RowKit
set_option linter.unusedVariables false

set_option maxHeartbeats 400000 in
theorem walk_FnExactCheck32 (w : World) (a : Option Addr) (len cap : Nat) (l : List UInt8) (ha : At w a (u8s l)) (hl : l.length = len) (hs : len ≤ maxLen) :
    Calls Try.prog 3 #[.slice a len cap] w fun e w' => e = .returned (.bool true) ∧ Below w.heap.size w w' := by
  unfold maxLen at hs
  have HL := Lib.hid hl
  clear hl
  by_cases hbig : 1048576 < len
  · go_enter Try.func3, Try.ntmps3
    go_wp2
    go_ret
    exact ⟨rfl, Below.refl _ _⟩
  · go_enter Try.func3, Try.ntmps3
    go_wp2_with fail
    refine (toByteS_any a len cap l _ ha HL.out (by omega)).mono ?_
    rintro e w1 ⟨a1, c1, rfl, h1, hb1⟩
    go_wp2_with fail
    refine (specCheck32_any a1 len c1 l _ h1.at HL.out (by omega)).mono ?_
    rintro e w1' ⟨rfl, rfl⟩
    go_wp2_with fail
    refine (toByteS_any a len cap l _ (ha.below hb1 (Nat.le_refl _)) HL.out (by omega)).mono ?_
    rintro e w2 ⟨a2, c2, rfl, h2, hb2⟩
    go_wp2_with fail
    refine (implCheck32_any a2 len c2 l _ h2.at HL.out (by omega)).mono ?_
    rintro e w3 ⟨rfl, hb3⟩
    have B2 : Below w.heap.size w w2 := hb1.trans (hb2.mono hb1.size)
    have B3 : Below w.heap.size w w3 := B2.trans (hb3.mono B2.size)
    go_wp2_with fail
    refine (toByteS_any a len cap l _ (ha.below B3 (Nat.le_refl _)) HL.out (by omega)).mono ?_
    rintro e w4 ⟨a4, c4, rfl, h4, hb4⟩
    go_wp2_with fail
    refine (eqByteS_same a2 a4 len c2 c4 l _ ((h2.at.below hb3 (Nat.le_refl _)).below hb4 (Nat.le_refl _)) h4.at HL.out (by unfold maxLen; omega)).mono ?_
    rintro e w5 ⟨rfl, hb5⟩
    go_wp2_with fail
    go_ret
    have B4 : Below w.heap.size w w4 := B3.trans (hb4.mono B3.size)
    exact ⟨rfl, B4.trans (hb5.mono B4.size)⟩
end Go.Proofs.Ythbjkmcpnhfimaa
