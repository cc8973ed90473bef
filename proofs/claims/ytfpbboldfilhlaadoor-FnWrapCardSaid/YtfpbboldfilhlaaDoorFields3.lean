/-
  Contracts of the given program's FieldsBytes. Conditions: bounds on what is handed in.
-/
import Derived.Test.YtfpbboldfilhlaaDoorFields2
namespace Go.Proofs.YtfpbboldfilhlaaDoor
open Go.ChangeShapes Go.WideShapes Go.ChangeAt Go.RowKit
set_option linter.unusedVariables false
set_option maxRecDepth 20000

/-- the text that the fields have, and the code -/
def fieldsT (zs : List ByteArray) : List UInt8 × Int :=
  if 60 < zs.length then ([], 6) else if (zs.any fun s => decide (20000 < s.size)) = true then ([], 4) else
    if 65536 < (fieldsL zs).length then ([], 7) else (fieldsL zs, 0)

theorem fieldsT_cases (zs : List ByteArray) : fieldsT zs = ([], 6) ∨ fieldsT zs = ([], 4) ∨ fieldsT zs = ([], 7) ∨ fieldsT zs = (fieldsL zs, 0) := by
  unfold fieldsT
  repeat' split
  · exact .inl rfl
  · exact .inr (.inl rfl)
  · exact .inr (.inr (.inl rfl))
  · exact .inr (.inr (.inr rfl))
theorem fieldsR_T (zs : List ByteArray) : fieldsR zs = if 4096 < zs.length then ([], 2) else fieldsT zs := rfl

end Go.Proofs.YtfpbboldfilhlaaDoor
