/-
  Contracts of cellsText of the given program and of l04Cells of its reference. Conditions: the cells are valid.
-/
import Derived.Test.YtfdodbkopbmjeaaNewScr
import Derived.Test.YtfdodbkopbmjeaaBuilderK
namespace Go.Proofs.Ytfdodbkopbmjeaa
open Go.ChangeShapes Go.WideShapes Go.ChangeAt Go.RowKit
set_option linter.unusedVariables false
set_option linter.unusedSimpArgs false
set_option maxRecDepth 20000

theorem cells_eq {b : Nat} {w w' : World} {cs : Array Value} (h : ∀ i, w.cell? ⟨b, i, none⟩ = cs[i]?) (hk : w'.heap[b]? = w.heap[b]?) : ∀ i, w'.cell? ⟨b, i, none⟩ = cs[i]? := fun i => (World.cell?_of_block (w := w) hk).trans (h i)

theorem u8s_one_byte (ln : Nat) (h : ln ≤ 127) : u8s (bigL ln 1) = [.int .u8 (ln : Int)] := by
  have e : bigL ln 1 = [UInt8.ofNat (ln % 256)] := rfl
  rw [e]
  show [Value.int .u8 ((UInt8.ofNat (ln % 256)).toNat : Int)] = _
  rw [ofNat_mod, Int.emod_eq_of_lt (by omega) (by omega)]

end Go.Proofs.Ytfdodbkopbmjeaa
