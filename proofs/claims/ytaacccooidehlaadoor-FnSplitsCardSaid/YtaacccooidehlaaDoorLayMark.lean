/-
  Contracts of the laws' helpers that mark and look at layouts. Conditions: bounds on lengths.
-/
import Derived.Test.YtaacccooidehlaaDoorPartMark
namespace Go.Proofs.YtaacccooidehlaaDoor
open Go.ChangeShapes Go.WideShapes Go.ChangeAt Go.RowKit
set_option linter.unusedVariables false
set_option linter.unusedSimpArgs false
set_option maxRecDepth 100000

end Go.Proofs.YtaacccooidehlaaDoor
