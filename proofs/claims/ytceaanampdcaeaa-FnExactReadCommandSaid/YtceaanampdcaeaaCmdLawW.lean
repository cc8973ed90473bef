/-
  Contracts of szCommand and toCommand of the laws, of CommandOK of the given program and of its reference; the walk of the law FnExactCommandOK. Conditions: bounds on the texts' lengths.
-/
import Derived.Test.YtceaanampdcaeaaCmd
namespace Go.Proofs.Ytceaanampdcaeaa
open Go.ChangeShapes Go.WideShapes Go.ChangeAt Go.RowKit
set_option linter.unusedVariables false

theorem specCommandOK_any (k cl sq pn n ep : Int) (rw : Bool) (nm dt : ByteArray) (w : World) (h1 : nm.size ≤ maxLen) (h2 : dt.size ≤ maxLen) :
    Calls Try.prog 8 #[.agg #[.int .i64 k, .int .i64 cl, .int .i64 sq, .int .i64 pn, .int .i64 n, .int .i64 ep, .bool rw, .string nm, .string dt]] w fun e w' => e = .returned (.bool (cmdB k cl sq pn n ep rw nm dt)) ∧ Below w.heap.size w w' := by
  by_cases h : k < 1 ∨ 8 < k
  · exact specCmd0 k cl sq pn n ep rw nm dt w h1 h2 h
  · rcases (show k = 1 ∨ k = 2 ∨ k = 3 ∨ k = 4 ∨ k = 5 ∨ k = 6 ∨ k = 7 ∨ k = 8 by omega) with rfl | rfl | rfl | rfl | rfl | rfl | rfl | rfl
    · exact specCmd1 cl sq pn n ep rw nm dt w h1 h2
    · exact specCmd2 cl sq pn n ep rw nm dt w h1 h2
    · exact specCmd3 cl sq pn n ep rw nm dt w h1 h2
    · exact specCmd4 cl sq pn n ep rw nm dt w h1 h2
    · exact specCmd5 cl sq pn n ep rw nm dt w h1 h2
    · exact specCmd6 cl sq pn n ep rw nm dt w h1 h2
    · exact specCmd7 cl sq pn n ep rw nm dt w h1 h2
    · exact specCmd8 cl sq pn n ep rw nm dt w h1 h2
theorem isCommand_any (k cl sq pn n ep : Int) (rw : Bool) (nm dt : ByteArray) (w : World) (h1 : nm.size ≤ maxLen) (h2 : dt.size ≤ maxLen) :
    Calls Try.prog 27 #[.agg #[.int .i64 k, .int .i64 cl, .int .i64 sq, .int .i64 pn, .int .i64 n, .int .i64 ep, .bool rw, .string nm, .string dt]] w fun e w' => e = .returned (.bool (cmdB k cl sq pn n ep rw nm dt)) ∧ Below w.heap.size w w' := by
  by_cases h : k < 1 ∨ 8 < k
  · exact implCmd0 k cl sq pn n ep rw nm dt w h1 h2 h
  · rcases (show k = 1 ∨ k = 2 ∨ k = 3 ∨ k = 4 ∨ k = 5 ∨ k = 6 ∨ k = 7 ∨ k = 8 by omega) with rfl | rfl | rfl | rfl | rfl | rfl | rfl | rfl
    · exact implCmd1 cl sq pn n ep rw nm dt w h1 h2
    · exact implCmd2 cl sq pn n ep rw nm dt w h1 h2
    · exact implCmd3 cl sq pn n ep rw nm dt w h1 h2
    · exact implCmd4 cl sq pn n ep rw nm dt w h1 h2
    · exact implCmd5 cl sq pn n ep rw nm dt w h1 h2
    · exact implCmd6 cl sq pn n ep rw nm dt w h1 h2
    · exact implCmd7 cl sq pn n ep rw nm dt w h1 h2
    · exact implCmd8 cl sq pn n ep rw nm dt w h1 h2
theorem implCommandOK_any (k cl sq pn n ep : Int) (rw : Bool) (nm dt : ByteArray) (w : World) (h1 : nm.size ≤ maxLen) (h2 : dt.size ≤ maxLen) :
    Calls Try.prog 10 #[.agg #[.int .i64 k, .int .i64 cl, .int .i64 sq, .int .i64 pn, .int .i64 n, .int .i64 ep, .bool rw, .string nm, .string dt]] w fun e w' => e = .returned (.bool (cmdB k cl sq pn n ep rw nm dt)) ∧ Below w.heap.size w w' := by
  have hb0 : Below w.heap.size w (w.alloc (.cells #[.int .i64 k, .int .i64 cl, .int .i64 sq, .int .i64 pn, .int .i64 n, .int .i64 ep, .bool rw, .string nm, .string dt] 26)) := (Below.refl _ _).alloc (Nat.le_refl _) _
  go_enter Try.func10, Try.ntmps10
  go_wp2_with fail
  refine (isCommand_any k cl sq pn n ep rw nm dt _ h1 h2).mono ?_
  rintro e w1 ⟨rfl, hb1⟩
  go_wp2
  go_ret
  exact ⟨rfl, hb0.trans (hb1.mono (by simp))⟩
theorem toCommand_any (k cl sq pn n ep : Int) (rw : Bool) (nm dt : ByteArray) (w : World) :
    Calls Try.prog 9 #[.agg #[.int .i64 k, .int .i64 cl, .int .i64 sq, .int .i64 pn, .int .i64 n, .int .i64 ep, .bool rw, .string nm, .string dt]] w fun e w' => e = .returned (.agg #[.int .i64 k, .int .i64 cl, .int .i64 sq, .int .i64 pn, .int .i64 n, .int .i64 ep, .bool rw, .string nm, .string dt]) ∧ Below w.heap.size w w' := by
  go_enter Try.func9, Try.ntmps9
  go_wp2
  exact bodyPost_ret (v := .agg #[.int .i64 k, .int .i64 cl, .int .i64 sq, .int .i64 pn, .int .i64 n, .int .i64 ep, .bool rw, .string nm, .string dt]) (by simp [results, Try.results9, go_sem]) rfl ⟨rfl, (((Below.refl _ _).alloc (Nat.le_refl _) _).alloc (by simp) _).alloc (by simp; omega) _⟩
theorem szCommand_any (k cl sq pn n ep : Int) (rw : Bool) (nm dt : ByteArray) (w : World) (h1 : nm.size ≤ maxLen) (h2 : dt.size ≤ maxLen) :
    Calls Try.prog 7 #[.agg #[.int .i64 k, .int .i64 cl, .int .i64 sq, .int .i64 pn, .int .i64 n, .int .i64 ep, .bool rw, .string nm, .string dt], .int .i64 1048576] w fun e w' => ∃ r : Int, e = .returned (.int .i64 r) ∧ (0 ≤ r → nm.size ≤ 1048576 ∧ dt.size ≤ 1048576) ∧ Below w.heap.size w w' := by
  unfold maxLen at h1 h2
  go_enter Try.func7, Try.ntmps7
  go_wp2
  all_goals go_ret
  all_goals exact ⟨_, rfl, by omega, (Below.refl _ _).alloc (Nat.le_refl _) _⟩

set_option maxHeartbeats 1000000 in
theorem walk_FnExactCommandOK (k : Int) (_ : (Lit.int .i64 k).wf = true) (cl : Int) (_ : (Lit.int .i64 cl).wf = true) (sq : Int) (_ : (Lit.int .i64 sq).wf = true) (pn : Int) (_ : (Lit.int .i64 pn).wf = true) (n : Int) (_ : (Lit.int .i64 n).wf = true) (ep : Int) (_ : (Lit.int .i64 ep).wf = true) (rw : Bool) (nm : ByteArray) (h1 : nm.size ≤ maxLen) (dt : ByteArray) (h2 : dt.size ≤ maxLen) (w : World) :
    Calls Try.prog 3 #[.agg #[.int .i64 k, .int .i64 cl, .int .i64 sq, .int .i64 pn, .int .i64 n, .int .i64 ep, .bool rw, .string nm, .string dt]] w fun e w' => e = .returned (.bool true) ∧ Below w.heap.size w w' := by
  have hb0 : Below w.heap.size w (w.alloc (.cells #[.int .i64 k, .int .i64 cl, .int .i64 sq, .int .i64 pn, .int .i64 n, .int .i64 ep, .bool rw, .string nm, .string dt] 23)) := (Below.refl _ _).alloc (Nat.le_refl _) _
  go_enter Try.func3, Try.ntmps3
  go_wp2_with fail
  refine (szCommand_any k cl sq pn n ep rw nm dt _ h1 h2).mono ?_
  rintro e w1 ⟨r, rfl, hr, hb1⟩
  have B1 : Below w.heap.size w w1 := hb0.trans (hb1.mono (by simp))
  have hz1 : w.heap.size + 1 ≤ w1.heap.size := by have := hb1.size; simpa using this
  have X1 := Lib.hid (box_below (box_new w (.cells #[.int .i64 k, .int .i64 cl, .int .i64 sq, .int .i64 pn, .int .i64 n, .int .i64 ep, .bool rw, .string nm, .string dt] 23)) hb1 (by simp))
  have x1 := box_cells X1.out
  by_cases hneg : r < 0
  · clear hr
    go_wp2
    go_ret
    exact ⟨rfl, B1⟩
  · clear hr
    go_wp2_with fail
    refine (toCommand_any k cl sq pn n ep rw nm dt _).mono ?_
    rintro e w2 ⟨rfl, hb2⟩
    have hz2 := hb2.size
    have B2 : Below w.heap.size w w2 := B1.trans (hb2.mono (by omega))
    have X2 := Lib.hid (box_below X1.out hb2 (by omega))
    have x2 := box_cells X2.out
    clear x1
    go_wp2_with fail
    refine (specCommandOK_any k cl sq pn n ep rw nm dt _ h1 h2).mono ?_
    rintro e w3 ⟨rfl, hb3⟩
    have hz3 := hb3.size
    have B3 : Below w.heap.size w w3 := B2.trans (hb3.mono (by omega))
    have X3 := Lib.hid (box_below X2.out hb3 (by omega))
    have x3 := box_cells X3.out
    clear x2
    go_wp2_with fail
    refine (toCommand_any k cl sq pn n ep rw nm dt _).mono ?_
    rintro e w4 ⟨rfl, hb4⟩
    have hz4 := hb4.size
    have B4 : Below w.heap.size w w4 := B3.trans (hb4.mono (by omega))
    have X4 := Lib.hid (box_below X3.out hb4 (by omega))
    have x4 := box_cells X4.out
    clear x3
    go_wp2_with fail
    refine (implCommandOK_any k cl sq pn n ep rw nm dt _ h1 h2).mono ?_
    rintro e w5 ⟨rfl, hb5⟩
    have hz5 := hb5.size
    have B5 : Below w.heap.size w w5 := B4.trans (hb5.mono (by omega))
    have X5 := Lib.hid (box_below X4.out hb5 (by omega))
    have x5 := box_cells X5.out
    clear x4
    go_wp2
    go_ret
    exact ⟨rfl, B5⟩
end Go.Proofs.Ytceaanampdcaeaa
