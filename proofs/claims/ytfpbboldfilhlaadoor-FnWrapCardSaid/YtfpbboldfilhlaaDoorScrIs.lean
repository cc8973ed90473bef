/-
  The tests on a screen, of the reference and of the given program, with the answer named; a part of a slice of cells. Conditions: bounds on lengths.
-/
import Derived.Test.YtfpbboldfilhlaaDoorSpecScr
import Derived.Test.YtfpbboldfilhlaaDoorRepeat
namespace Go.Proofs.YtfpbboldfilhlaaDoor
open Go.ChangeShapes Go.WideShapes Go.ChangeAt Go.RowKit
set_option linter.unusedVariables false
set_option maxRecDepth 100000
theorem at_sub {w : World} {b off : Nat} {cs : List (Int × Int)} (h : At w (some ⟨b, off, none⟩) (cellsV cs)) (k n : Nat) : At w (some ⟨b, off + k * 2, none⟩) (cellsV ((cs.drop k).take n)) := by
  have := at_src h (k * 2) (n * 2)
  rw [cellsV_drop, cellsV_take] at this
  refine .inr ⟨b, off + k * 2, rfl, fun i hi => ?_⟩
  have h2 := this i _ (List.getElem?_eq_getElem hi)
  have hadd : (⟨b, off + k * 2, none⟩ : Addr).add i = ⟨b, off + k * 2 + i, none⟩ := by unfold Addr.add; split <;> simp_all
  rwa [hadd] at h2
theorem isScr_is (wd ht x y lk tp bt sx sy : Int) (ti : ByteArray) (aC : Option Addr) (lenC capC : Nat) (cs : List (Int × Int)) (aH : Option Addr) (lenH capH : Nat) (hs : List ByteArray) (R : Bool) (w : World) (hti : ti.size ≤ maxLen) (hc : At w aC (cellsV cs)) (hlc : cs.length = lenC) (hnc : lenC ≤ maxLen) (hh : At w aH (strs hs)) (hlh : hs.length = lenH) (hnh : lenH ≤ maxLen) (hz : ∀ s ∈ hs, s.size ≤ maxLen) (hR : scrB wd ht x y lk tp bt sx sy ti cs hs = R) :
    Calls Tryd.prog 12 #[.agg #[.int .i64 wd, .int .i64 ht, .int .i64 x, .int .i64 y, .int .i64 lk, .int .i64 tp, .int .i64 bt, .int .i64 sx, .int .i64 sy, .string ti, .slice aC lenC capC, .slice aH lenH capH]] w fun e w' => e = .returned (.bool R) ∧ Below w.heap.size w w' := by
  subst hR; exact isScreen_any wd ht x y lk tp bt sx sy ti aC lenC capC cs aH lenH capH hs w hti hc hlc hnc hh hlh hnh hz

end Go.Proofs.YtfpbboldfilhlaaDoor
