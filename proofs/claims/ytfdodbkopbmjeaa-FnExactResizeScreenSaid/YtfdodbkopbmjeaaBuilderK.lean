/-
  'Builder.WriteString', with what it leaves as it was. Conditions: bounds on lengths.
-/
import Derived.Test.YtfdodbkopbmjeaaBuilder
namespace Go.Proofs.Ytfdodbkopbmjeaa
open Go.ChangeShapes Go.WideShapes Go.ChangeAt Go.RowKit
set_option linter.unusedVariables false
set_option maxRecDepth 20000

end Go.Proofs.Ytfdodbkopbmjeaa
