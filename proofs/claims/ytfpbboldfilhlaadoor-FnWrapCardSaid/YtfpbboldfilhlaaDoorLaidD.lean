/-
  The cells that a listed table's datum lays, and the tail of a row's list of variables. No condition.
-/
import Derived.Test.YtfpbboldfilhlaaDoorBase
namespace Go.Proofs.YtfpbboldfilhlaaDoor
open Go.RowKit
set_option linter.unusedVariables false

/-- the value of a plain datum -/
def litV : DataW Unit → Value
  | .lit (.int k n) => .int k n
  | .lit (.string s) => .string ⟨s.toArray⟩
  | .lit (.bool b) => .bool b
  | _ => .nilIface
/-- the cells of a table of plain data -/
def cellsD : DataW Unit → Array Value
  | .agg ds => (ds.flatMap fun | .agg es => es.map litV | d => [litV d]).toArray
  | d => #[litV d]
theorem laid_tail {P : Program} {x : String × DataW Unit} {rest : List (String × DataW Unit)} {W : World} (h : laidMet P (x :: rest) W) : laidMet P rest W := by
  obtain ⟨ps, ⟨g, t, cs, fuel, p, q, _, _, _, _, hr, rfl⟩, hnd, hok⟩ := h
  exact ⟨q, hr, (List.nodup_append.1 hnd).2.1, fun b off hm => hok b off (List.mem_append_right _ hm)⟩
end Go.Proofs.YtfpbboldfilhlaaDoor
