/-
  Contracts of the helpers of the laws' package at layouts' areas. Conditions: bounds on lengths.
-/
import Derived.Test.YtlmppnckimoclaaAreaMark
import Derived.Test.YtlmppnckimoclaaSlices
import Derived.StillTailTactics
namespace Go.Proofs.Ytlmppnckimoclaa
open Go.ChangeShapes Go.WideShapes Go.ChangeAt Go.RowKit
set_option linter.unusedVariables false
set_option linter.unusedSimpArgs false
set_option maxRecDepth 100000

end Go.Proofs.Ytlmppnckimoclaa
