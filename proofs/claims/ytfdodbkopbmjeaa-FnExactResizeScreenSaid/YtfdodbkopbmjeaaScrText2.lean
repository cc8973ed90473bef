/-
  Contract of l04Bytes of the reference: the encoding of a valid screen. Conditions: the screen is valid.
-/
import Derived.Test.YtfdodbkopbmjeaaScrText
import Derived.Deep.RegionHeld
namespace Go.Proofs.Ytfdodbkopbmjeaa
open Go.ChangeShapes Go.WideShapes Go.ChangeAt Go.RowKit
set_option linter.unusedVariables false
set_option linter.unusedSimpArgs false
set_option maxRecDepth 100000

end Go.Proofs.Ytfdodbkopbmjeaa
