/-
  The walk of the law FnExactHash. Conditions: the tables stand.
-/
import Derived.Test.YtfkpdinfoagfhaaDoorSha6
import Derived.Test.YtfkpdinfoagfhaaDoorShaHold
namespace Go.Proofs.YtfkpdinfoagfhaaDoor
open Go.ChangeShapes Go.WideShapes Go.ChangeAt Go.RowKit
set_option linter.unusedVariables false

set_option maxHeartbeats 400000 in
theorem walk_FnExactHash {w : World} (a : Option Addr) (len cap : Nat) (l : List UInt8) (ha : At w a (u8s l)) (hl : l.length = len) (hs : len ≤ maxLen) (hS : Start w) (hR : Rnd w) :
    Calls Tryd.prog 3 #[.slice a len cap] w fun e w' => e = .returned (.bool true) ∧ Below w.heap.size w w' := by
  unfold maxLen at hs
  have HL := Lib.hid hl
  have HT : Hid (Tabs w) := ⟨hR, hS⟩
  clear hl hR hS
  by_cases hbig : 1048576 < len
  · go_enter Tryd.func3, Tryd.ntmps3
    go_wp2
    go_ret
    exact ⟨rfl, Below.refl _ _⟩
  · go_enter Tryd.func3, Tryd.ntmps3
    go_wp2_with fail
    refine (toByteS_any a len cap l _ ha HL.out (by omega)).mono ?_
    rintro e w1 ⟨a1, c1, rfl, h1, hb1⟩
    go_wp2_with fail
    refine (specHash_any a1 len c1 l _ h1.at HL.out (by unfold maxLen; omega)).mono ?_
    rintro e w2 ⟨rfl, hb2⟩
    have B2 : Below w.heap.size w w2 := hb1.trans (hb2.mono hb1.size)
    go_wp2_with fail
    refine (toByteS_any a len cap l _ (ha.below B2 (Nat.le_refl _)) HL.out (by omega)).mono ?_
    rintro e w3 ⟨a3, c3, rfl, h3, hb3⟩
    have B3 : Below w.heap.size w w3 := B2.trans (hb3.mono B2.size)
    go_wp2_with fail
    refine (implHash_any a3 len c3 l _ h3.at HL.out (by unfold maxLen; omega) (HT.out.below B3)).mono ?_
    rintro e w4 ⟨rfl, hb4⟩
    have B4 : Below w.heap.size w w4 := B3.trans (hb4.mono B3.size)
    go_wp2_with fail
    refine (toByteS_any a len cap l _ (ha.below B4 (Nat.le_refl _)) HL.out (by omega)).mono ?_
    rintro e w5 ⟨a5, c5, rfl, h5, hb5⟩
    go_wp2_with fail
    refine (eqByteS_same a3 a5 len c3 c5 l _ ((h3.at.below hb4 (Nat.le_refl _)).below hb5 (Nat.le_refl _)) h5.at HL.out (by unfold maxLen; omega)).mono ?_
    rintro e w6 ⟨rfl, hb6⟩
    go_wp2_with fail
    go_ret
    have B5 : Below w.heap.size w w5 := B4.trans (hb5.mono B4.size)
    exact ⟨rfl, B5.trans (hb6.mono B5.size)⟩
end Go.Proofs.YtfkpdinfoagfhaaDoor
