/-
  Contracts of the helpers of the laws' package at layouts' areas. Conditions: bounds on lengths.
-/
import Derived.Test.YtaacccooidehlaaDoorAreaMark
import Derived.Test.YtaacccooidehlaaDoorSlices
import Derived.StillTailTactics
namespace Go.Proofs.YtaacccooidehlaaDoor
open Go.ChangeShapes Go.WideShapes Go.ChangeAt Go.RowKit
set_option linter.unusedVariables false
set_option linter.unusedSimpArgs false
set_option maxRecDepth 100000

end Go.Proofs.YtaacccooidehlaaDoor
