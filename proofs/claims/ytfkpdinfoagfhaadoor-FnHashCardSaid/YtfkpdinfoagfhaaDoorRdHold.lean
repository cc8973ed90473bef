/-
  What the row's list gives for ReadHash: the library's error stands in its variable. No condition.
-/
import Derived.Test.YtfkpdinfoagfhaaDoorRdHash3
import Derived.Test.YtfkpdinfoagfhaaDoorLaidD
import Derived.Stop.LaidErr
namespace Go.Proofs.YtfkpdinfoagfhaaDoor
open Go.RowKit
set_option linter.unusedVariables false
set_option maxRecDepth 100000

theorem gES : Tryd.prog.globalNamed "strconv.ErrSyntax" = some 2 := by kernel_rfl
theorem gESType : (Tryd.prog.globals[2]?).map (·.type) = some 38 := by kernel_rfl
theorem starErr : "*" ++ "errors.errorString" = "*errors.errorString" := by decide
theorem rowErr (u : TypeId) (h : Tryd.prog.typeName? 3 u = some "*errors.errorString") : u = 95 :=
  typeName_ptr_named (nm := "errors.errorString") (by rw [starErr]; kernel_rfl) (by kernel_rfl) (by decide) u (by rw [starErr]; exact h)
theorem errIn_of {W : World} {rest : List (String × DataW Unit)} (h : laidMet Tryd.prog (("strconv.ErrSyntax", Rows.laid_strconv_ErrSyntax) :: rest) W) : ErrIn W := by
  obtain ⟨a, s, hv, _⟩ := laid_sentinel h gES gESType Tryd.underlying38 rowErr Tryd.underlying95 Tryd.underlying97 rfl rfl Tryd.underlying9 (by kernel_rfl) (by kernel_rfl)
  exact ⟨_, _, by simpa using World.var?_cell gES hv 0⟩
theorem holds_FnExactReadHash {W : World} (h : laidMetH Tryd.prog Rows.fnExactReadHashRow.laid W) : ErrIn W := errIn_of (laid_tail (laid_tail (laid_tail (laid_tail h))))
end Go.Proofs.YtfkpdinfoagfhaaDoor
