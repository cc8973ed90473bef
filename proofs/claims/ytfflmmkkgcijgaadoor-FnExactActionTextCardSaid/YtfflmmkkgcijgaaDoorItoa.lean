/-
  Contract of strconv.Itoa at small numbers. Conditions: the library's table of powers stands in its variable.
-/
import Derived.Test.YtfflmmkkgcijgaaDoorDigits
import Derived.Test.YtfflmmkkgcijgaaDoorShelf2
import Derived.Lib.LaidTab
import Derived.Lib.AppendIntMem
namespace Go.Proofs.YtfflmmkkgcijgaaDoor
open Go.ChangeShapes Go.WideShapes Go.ChangeAt Go.RowKit
set_option linter.unusedVariables false
set_option linter.unusedSimpArgs false
set_option maxRecDepth 100000
def Pow (w : World) : Prop := Lib.TabIs Tryd.prog w "internal/strconv.uint64pow10" .u64 Lib.pow10Tab
theorem gPow : Tryd.prog.globalNamed "internal/strconv.uint64pow10" = some 1 := by kernel_rfl
theorem Pow.below {C : Nat} {w w' : World} (h : Pow w) (hb : Below C w w') (hC : w.heap.size ≤ C) : Pow w' := by
  unfold Pow Lib.TabIs World.var? at *
  rw [gPow] at *
  simp only [Option.bind_some] at *
  have hlt : 1 < w.heap.size := by
    rcases Nat.lt_or_ge 1 w.heap.size with h' | h'
    · exact h'
    · rw [Array.getElem?_eq_none h'] at h; cases h
  rw [hb.block 1 (by omega)]; exact h
theorem itoa_any (n : Nat) (w : World) (hw : Pow w) (hn : n ≤ 1000000) :
    Calls Tryd.prog 55 #[.int .i64 (n : Int)] w fun e w' => e = .returned (.string (numB n)) ∧ Below w.heap.size w w' := by
  refine (Tryd.strconv_Itoa (n : Int) (by omega) (by omega) w hw).mono ?_
  rintro e w' ⟨rfl, k, os, rfl⟩
  refine ⟨ret_str ?_, Lib.below_grow _ _ (Nat.le_refl _) _ _⟩
  unfold numB Lib.itoa
  rw [if_neg (by omega)]
  simp
end Go.Proofs.YtfflmmkkgcijgaaDoor
