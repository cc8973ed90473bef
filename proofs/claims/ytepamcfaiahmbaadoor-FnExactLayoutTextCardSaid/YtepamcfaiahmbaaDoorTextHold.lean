/-
  What the row's list gives for LayoutText: the library's table of powers stands in its variable. No condition.
-/
import Derived.Test.YtepamcfaiahmbaaDoorTextW
import Derived.Test.YtepamcfaiahmbaaDoorLaidD
import Derived.Lib.LaidTab
namespace Go.Proofs.YtepamcfaiahmbaaDoor
open Go.RowKit
set_option linter.unusedVariables false
set_option maxRecDepth 100000
theorem gPowType : (Tryd.prog.globals[0]?).map (·.type) = some 118 := by kernel_rfl
theorem pow_of {W : World} {rest : List (String × DataW Unit)} (h : laidMet Tryd.prog (("internal/strconv.uint64pow10", Rows.laid_internal_strconv_uint64pow10) :: rest) W) : Pow W := by
  have := Lib.tabIs_of_head gPow gPowType Tryd.underlying118 Tryd.underlying112 (by kernel_rfl) (by kernel_rfl) (zs := Lib.pow10Tab) (rest := rest) (by exact h)
  exact this
theorem holds_FnExactLayoutText {W : World} (h : laidMetH Tryd.prog Rows.fnExactLayoutTextRow.laid W) : Pow W := pow_of (laid_tail (laid_tail h))
end Go.Proofs.YtepamcfaiahmbaaDoor
