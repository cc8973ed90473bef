/-
  Contracts of the given program's isParser and of the reference's FirstParser, at the first parser. No condition.
-/
import Derived.Test.YtfpbboldfilhlaaDoorClone
namespace Go.Proofs.YtfpbboldfilhlaaDoor
open Go.ChangeShapes Go.WideShapes Go.ChangeAt Go.RowKit
set_option linter.unusedVariables false
set_option linter.unusedSimpArgs false
set_option maxRecDepth 100000
attribute [local irreducible] wpList
theorem isParser0_any (a : Option Addr) (c : Nat) (w : World) :
    Calls Tryd.prog 13 #[.agg #[.int .i64 0, .slice a 0 c, .bool false, .string ⟨#[]⟩, .string ⟨#[]⟩]] w fun e w' => e = .returned (.bool true) ∧ Below w.heap.size w w' := by
  have HB0 : Hid (Below w.heap.size w (w.alloc (.cells #[.int .i64 0, .slice a 0 c, .bool false, .string ⟨#[]⟩, .string ⟨#[]⟩] 32))) := (Below.refl _ _).alloc (Nat.le_refl _) _
  have x0 := box_cells (box_new w (.cells #[.int .i64 0, .slice a 0 c, .bool false, .string ⟨#[]⟩, .string ⟨#[]⟩] 32))
  go_enter Tryd.func13, Tryd.ntmps13
  go_wp2_with fail
  have hdr : ∀ n i, ((w.alloc (.cells #[.int .i64 0, .slice a 0 c, .bool false, .string ⟨#[]⟩, .string ⟨#[]⟩] 32)).drewN n).cell? ⟨w.heap.size, i, none⟩ = (#[.int .i64 0, .slice a 0 c, .bool false, .string ⟨#[]⟩, .string ⟨#[]⟩] : Array Value)[i]? := fun _ => x0
  have HDR := Lib.hid hdr
  clear hdr
  generalize (w.alloc (.cells #[.int .i64 0, .slice a 0 c, .bool false, .string ⟨#[]⟩, .string ⟨#[]⟩] 32)) = W1 at *
  generalize hn : w.heap.size = n0 at *
  go_quiet (fail)
  have HB1 := Lib.hid (below_drewN nq HB0.out)
  have x2 := HDR.out nq
  generalize W1.drewN nq = w2 at *
  clear x0 HDR
  go_wp2
  go_ret
  subst hn
  exact ⟨rfl, HB1.out⟩
theorem firstParser_any (w : World) :
    Calls Tryd.prog 7 #[] w fun e w' => ∃ a, e = .returned (.agg #[.int .i64 0, .slice (some a) 0 0, .bool false, .string ⟨#[]⟩, .string ⟨#[]⟩]) ∧ Below w.heap.size w w' := by
  go_enter Tryd.func7, Tryd.ntmps7
  go_wp2
  refine bodyPost_ret (v := .agg #[.int .i64 0, .slice (some ⟨w.heap.size + 1, 0, none⟩) 0 0, .bool false, .string ⟨#[]⟩, .string ⟨#[]⟩]) (by simp [results, Tryd.results7, go_sem]) rfl ⟨_, rfl, ?_⟩
  exact ((Below.refl _ _).alloc (Nat.le_refl _) _).alloc (by simp) _
end Go.Proofs.YtfpbboldfilhlaaDoor
