/-
  What the row's list gives for ActionText: the library's table of powers stands in its variable. No condition.
-/
import Derived.Test.YtfflmmkkgcijgaaDoorActTxW
import Derived.Test.YtfflmmkkgcijgaaDoorLaidD
import Derived.Lib.LaidTab
namespace Go.Proofs.YtfflmmkkgcijgaaDoor
open Go.RowKit
set_option linter.unusedVariables false
set_option maxRecDepth 100000
theorem gPowType : (Tryd.prog.globals[1]?).map (·.type) = some 116 := by kernel_rfl
theorem pow_of {W : World} {rest : List (String × DataW Unit)} (h : laidMet Tryd.prog (("internal/strconv.uint64pow10", Rows.laid_internal_strconv_uint64pow10) :: rest) W) : Pow W := by
  have := Lib.tabIs_of_head gPow gPowType Tryd.underlying116 Tryd.underlying107 (by kernel_rfl) (by kernel_rfl) (zs := Lib.pow10Tab) (rest := rest) (by exact h)
  exact this
theorem holds_FnExactActionText {W : World} (h : laidMetH Tryd.prog Rows.fnExactActionTextRow.laid W) : Pow W := pow_of (laid_tail (laid_tail h))
end Go.Proofs.YtfflmmkkgcijgaaDoor
