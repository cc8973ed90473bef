/-
  The walk of the law FnExactReadCommand of the given program. No condition.
-/
import Derived.Test.YtceaanampdcaeaaReadCmd3
namespace Go.Proofs.Ytceaanampdcaeaa
open Go.ChangeShapes Go.WideShapes Go.ChangeAt Go.RowKit
set_option linter.unusedVariables false

theorem specRC_val (ao : Option Addr) (n0 c0 : Nat) (l : List UInt8) (k cl sq pn n ep : Int) (rw : Bool) (nm dt : ByteArray) (c : Int) (w : World) (ha : At w ao (u8s l)) (hl : l.length = n0) (hn : n0 ≤ 16777216) (hR : readCmdR l = (⟨k, cl, sq, pn, n, ep, rw, nm, dt⟩, c)) :
    Calls Try.prog 16 #[.slice ao n0 c0] w fun e w' => e = .returned (.tuple #[.agg #[.int .i64 k, .int .i64 cl, .int .i64 sq, .int .i64 pn, .int .i64 n, .int .i64 ep, .bool rw, .string nm, .string dt], .int .i64 c]) ∧ Below w.heap.size w w' := by
  have := specReadCommand_any ao n0 c0 l w ha hl hn
  rw [hR] at this
  exact this
theorem implRC_val (ao : Option Addr) (n0 c0 : Nat) (l : List UInt8) (k cl sq pn n ep : Int) (rw : Bool) (nm dt : ByteArray) (c : Int) (w : World) (ha : At w ao (u8s l)) (hl : l.length = n0) (hn : n0 ≤ 16777216) (hR : readCmdR l = (⟨k, cl, sq, pn, n, ep, rw, nm, dt⟩, c)) :
    Calls Try.prog 18 #[.slice ao n0 c0] w fun e w' => e = .returned (.tuple #[.agg #[.int .i64 k, .int .i64 cl, .int .i64 sq, .int .i64 pn, .int .i64 n, .int .i64 ep, .bool rw, .string nm, .string dt], .int .i64 c]) ∧ Below w.heap.size w w' := by
  have := implReadCommand_any ao n0 c0 l w ha hl hn
  rw [hR] at this
  exact this

set_option maxHeartbeats 1000000 in
theorem walk_FnExactReadCommand (w : World) (a : Option Addr) (len cap : Nat) (l : List UInt8) (ha : At w a (u8s l)) (hl : l.length = len) (hs : len ≤ maxLen) :
    Calls Try.prog 5 #[.slice a len cap] w fun e w' => e = .returned (.bool true) ∧ Below w.heap.size w w' := by
  unfold maxLen at hs
  have HL := Lib.hid hl
  by_cases hbig : 1048576 < len
  · clear hl
    go_enter Try.func5, Try.ntmps5
    go_wp2
    go_ret
    exact ⟨rfl, Below.refl _ _⟩
  clear hl
  obtain ⟨⟨k, cl, sq, pn, n, ep, rw, nm, dt⟩, c, hR⟩ : ∃ d c, readCmdR l = (d, c) := ⟨_, _, rfl⟩
  have HR := Lib.hid hR
  clear hR
  go_enter Try.func5, Try.ntmps5
  go_wp2_with fail
  refine (toByteS_any a len cap l _ ha HL.out (by omega)).mono ?_
  rintro e w1 ⟨a_t, c_t, rfl, h_t, hb1⟩
  have hz1 := hb1.size
  have B1 : Below w.heap.size w w1 := hb1
  have s_t := Sl.of h_t
  go_wp2_with fail
  refine (specRC_val a_t len c_t l k cl sq pn n ep rw nm dt c _ s_t.at HL.out (by omega) HR.out).mono ?_
  rintro e w2 ⟨rfl, hb2⟩
  have hz2 := hb2.size
  have B2 : Below w.heap.size w w2 := B1.trans (hb2.mono (by omega))
  have B2' : Below w.heap.size w (w2.alloc (.cells #[.int .i64 k, .int .i64 cl, .int .i64 sq, .int .i64 pn, .int .i64 n, .int .i64 ep, .bool rw, .string nm, .string dt] 26)) := B2.alloc B2.size _
  go_wp2_with fail
  refine (toByteS_any a len cap l _ (ha.below B2' (Nat.le_refl _)) HL.out (by omega)).mono ?_
  rintro e w3 ⟨a_x, c_x, rfl, h_x, hb3⟩
  have hz3 : w2.heap.size + 1 ≤ w3.heap.size := by have := hb3.size; simpa using this
  have B3 : Below w.heap.size w w3 := B2'.trans (hb3.mono (by simp; omega))
  have s_x := Sl.of h_x
  have X3 := Lib.hid (box_below (box_new w2 (.cells #[.int .i64 k, .int .i64 cl, .int .i64 sq, .int .i64 pn, .int .i64 n, .int .i64 ep, .bool rw, .string nm, .string dt] 26)) hb3 (by simp))
  go_wp2_with fail
  refine (implRC_val a_x len c_x l k cl sq pn n ep rw nm dt c _ s_x.at HL.out (by omega) HR.out).mono ?_
  rintro e w4 ⟨rfl, hb4⟩
  have hz4 := hb4.size
  have B4 : Below w.heap.size w w4 := B3.trans (hb4.mono (by omega))
  have B4' : Below w.heap.size w (w4.alloc (.cells #[.int .i64 k, .int .i64 cl, .int .i64 sq, .int .i64 pn, .int .i64 n, .int .i64 ep, .bool rw, .string nm, .string dt] 26)) := B4.alloc B4.size _
  replace s_x := s_x.below hb4 (by omega)
  have X4 := Lib.hid (box_below X3.out hb4 (by omega))
  have x4 := box_cells X4.out
  have hlt : w2.heap.size < w4.heap.size := by omega
  have hne1 : w2.heap.size ≠ w4.heap.size := by omega
  have hne2 : ¬ w4.heap.size = w2.heap.size := by omega
  have s_y : Sl (w2.alloc (.cells #[.int .i64 k, .int .i64 cl, .int .i64 sq, .int .i64 pn, .int .i64 n, .int .i64 ep, .bool rw, .string nm, .string dt] 26)).heap.size w3.heap.size (w4.alloc (.cells #[.int .i64 k, .int .i64 cl, .int .i64 sq, .int .i64 pn, .int .i64 n, .int .i64 ep, .bool rw, .string nm, .string dt] 26)) a_x (u8s l) := s_x.below ((Below.refl w4.heap.size w4).alloc (Nat.le_refl _) _) (by omega)
  clear X3 h_t h_x s_t hb1 hb2 hb3 hb4
  go_wp2_with fail
  refine (eqCommand_same k cl sq pn n ep rw nm dt _).mono ?_
  rintro e w5 ⟨rfl, hb5⟩
  have hz5 := hb5.size
  simp at hz5
  have B5 : Below w.heap.size w w5 := B4'.trans (hb5.mono (by simp; omega))
  replace s_y := s_y.below hb5 (by simp; omega)
  clear x4 X4 s_x
  go_wp2_with fail
  refine (toByteS_any a len cap l _ (ha.below B5 (Nat.le_refl _)) HL.out (by omega)).mono ?_
  rintro e w6 ⟨a_u, c_u, rfl, h_u, hb6⟩
  have hz6 := hb6.size
  have B6 : Below w.heap.size w w6 := B5.trans (hb6.mono (by omega))
  replace s_y := s_y.below hb6 (by omega)
  go_wp2_with fail
  refine (eqByteS_same a_x a_u len c_x c_u l _ s_y.at h_u.at HL.out (by unfold maxLen; omega)).mono ?_
  rintro e w7 ⟨rfl, hb7⟩
  have B7 : Below w.heap.size w w7 := B6.trans (hb7.mono (by omega))
  go_wp2
  go_ret
  exact ⟨rfl, B7⟩
end Go.Proofs.Ytceaanampdcaeaa
