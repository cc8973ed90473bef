/-
  Contracts of LayoutOK of the reference and of the given program. Conditions: the parts lie as the cells say.
-/
import Derived.Test.YtlmppnckimoclaaLayOK
namespace Go.Proofs.Ytlmppnckimoclaa
open Go.ChangeShapes Go.WideShapes Go.ChangeAt Go.RowKit
set_option linter.unusedVariables false
set_option linter.unusedSimpArgs false
set_option maxRecDepth 100000
theorem implLayOK_any (ao : Option Addr) (len cap : Nat) (ps : List PartV) (hl : ps.length = len) (hn : len ≤ 2000000) (hlc : len ≤ cap) (a b : Int) (w : World) (ha : At w ao (partsV ps)) :
    Calls Try.prog 14 #[.agg #[.slice ao len cap], .int .i64 a, .int .i64 b] w (fun e w' => e = .returned (.bool (okL ps a b)) ∧ Below w.heap.size w w') := by
  have HB : Hid (Below w.heap.size w (w.alloc (.cells #[.slice ao len cap] 26))) := (Below.refl _ _).alloc (Nat.le_refl _) _
  have HC := Lib.hid (treeOf_any ao len cap ps a b _ (ha.below HB.out (Nat.le_refl _)) hl hlc hn)
  clear ha hl
  obtain ⟨R, hR⟩ : ∃ R, okL ps a b = R := ⟨_, rfl⟩
  have HR := Lib.hid hR
  rw [hR]
  clear hR
  go_enter Try.func14, Try.ntmps14
  go_wp2_with fail
  refine HC.out.mono ?_
  rintro e w1 ⟨hb1, ⟨hno, rfl⟩ | ⟨t, s, hy, rfl, _, _, _⟩⟩
  · have HB1 : Hid (Below w.heap.size w w1) := HB.out.trans (hb1.mono (by simp <;> omega))
    have HF : Hid (R = false) := by show _ = _; rw [← HR.out]; exact okL_false hno
    clear hb1 hno
    go_wp2
    go_ret
    exact ⟨ret_bool HF.out.symm, HB1.out⟩
  · have HB1 : Hid (Below w.heap.size w w1) := HB.out.trans (hb1.mono (by simp <;> omega))
    have HF : Hid (R = true) := by show _ = _; rw [← HR.out]; exact okL_true hy
    clear hb1 hy
    go_wp2
    go_ret
    exact ⟨ret_bool HF.out.symm, HB1.out⟩
end Go.Proofs.Ytlmppnckimoclaa
