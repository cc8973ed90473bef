/-
  The walk of the law FnExactCommandBytes of the given program. No condition.
-/
import Derived.Test.YtceaanampdcaeaaCmdBytes3
import Derived.Test.YtceaanampdcaeaaSlices
namespace Go.Proofs.Ytceaanampdcaeaa
open Go.ChangeShapes Go.WideShapes Go.ChangeAt Go.RowKit
set_option linter.unusedVariables false

theorem spec_val (k cl sq pn n ep : Int) (rw : Bool) (nm dt : ByteArray) (L : List UInt8) (c : Int) (m : Nat) (w : World) (h1 : nm.size ≤ maxLen) (h2 : dt.size ≤ maxLen) (hR : cmdR k cl sq pn n ep rw nm dt = (L, c)) (hm : L.length = m) :
    Calls Try.prog 11 #[.agg #[.int .i64 k, .int .i64 cl, .int .i64 sq, .int .i64 pn, .int .i64 n, .int .i64 ep, .bool rw, .string nm, .string dt]] w fun e w' => ∃ ao cap, e = .returned (.tuple #[.slice ao m cap, .int .i64 c]) ∧ Mine w.heap.size w' ao (u8s L) ∧ Below w.heap.size w w' := by
  have := specCommandBytes_any k cl sq pn n ep rw nm dt w h1 h2
  rw [hR] at this
  subst hm
  exact this
theorem impl_val (k cl sq pn n ep : Int) (rw : Bool) (nm dt : ByteArray) (L : List UInt8) (c : Int) (m : Nat) (w : World) (h1 : nm.size ≤ maxLen) (h2 : dt.size ≤ maxLen) (hR : cmdR k cl sq pn n ep rw nm dt = (L, c)) (hm : L.length = m) :
    Calls Try.prog 12 #[.agg #[.int .i64 k, .int .i64 cl, .int .i64 sq, .int .i64 pn, .int .i64 n, .int .i64 ep, .bool rw, .string nm, .string dt]] w fun e w' => ∃ ao cap, e = .returned (.tuple #[.slice ao m cap, .int .i64 c]) ∧ Mine w.heap.size w' ao (u8s L) ∧ Below w.heap.size w w' := by
  have := implCommandBytes_any k cl sq pn n ep rw nm dt w h1 h2
  rw [hR] at this
  subst hm
  exact this

set_option maxHeartbeats 2000000 in
set_option maxRecDepth 100000 in
theorem walk_FnExactCommandBytes (k : Int) (_ : (Lit.int .i64 k).wf = true) (cl : Int) (_ : (Lit.int .i64 cl).wf = true) (sq : Int) (_ : (Lit.int .i64 sq).wf = true) (pn : Int) (_ : (Lit.int .i64 pn).wf = true) (n : Int) (_ : (Lit.int .i64 n).wf = true) (ep : Int) (_ : (Lit.int .i64 ep).wf = true) (rw : Bool) (nm : ByteArray) (h1 : nm.size ≤ maxLen) (dt : ByteArray) (h2 : dt.size ≤ maxLen) (w : World) :
    Calls Try.prog 4 #[.agg #[.int .i64 k, .int .i64 cl, .int .i64 sq, .int .i64 pn, .int .i64 n, .int .i64 ep, .bool rw, .string nm, .string dt]] w fun e w' => e = .returned (.bool true) ∧ Below w.heap.size w w' := by
  obtain ⟨L, c, hR⟩ : ∃ L c, cmdR k cl sq pn n ep rw nm dt = (L, c) := ⟨_, _, rfl⟩
  obtain ⟨m, hm⟩ : ∃ m, L.length = m := ⟨_, rfl⟩
  have hm1 : m ≤ 1048576 := by have := cmdR_le k cl sq pn n ep rw nm dt; rw [hR] at this; have h3 : L.length ≤ 1048576 := this; omega
  have HR := Lib.hid hR
  have HM := Lib.hid hm
  clear hR hm
  go_enter Try.func4, Try.ntmps4
  have B0 : Below w.heap.size w (w.alloc (.cells #[.int .i64 k, .int .i64 cl, .int .i64 sq, .int .i64 pn, .int .i64 n, .int .i64 ep, .bool rw, .string nm, .string dt] 23)) := (Below.refl _ _).alloc (Nat.le_refl _) _
  go_wp2_with fail
  refine (szCommand_any k cl sq pn n ep rw nm dt _ h1 h2).mono ?_
  rintro e w1 ⟨r, rfl, hr, hb1⟩
  have B1 : Below w.heap.size w w1 := B0.trans (hb1.mono (by simp))
  have hz1 : w.heap.size + 1 ≤ w1.heap.size := by have := hb1.size; simpa using this
  have X1_0 : Hid (w1.heap[w.heap.size]? = some (.cells #[.int .i64 k, .int .i64 cl, .int .i64 sq, .int .i64 pn, .int .i64 n, .int .i64 ep, .bool rw, .string nm, .string dt] 23)) := box_below (W := (w.alloc (.cells #[.int .i64 k, .int .i64 cl, .int .i64 sq, .int .i64 pn, .int .i64 n, .int .i64 ep, .bool rw, .string nm, .string dt] 23))) (by first | exact box_new _ _ | (have := box_new _ _; simpa using this)) hb1 (by simp)
  have x1_0 := box_cells X1_0.out
  by_cases hneg : r < 0
  · clear hr
    go_wp2
    go_ret
    exact ⟨rfl, B1⟩
  clear hr
  go_wp2_with fail
  refine (toCommand_any k cl sq pn n ep rw nm dt _).mono ?_
  rintro e w2 ⟨rfl, hb2⟩
  have hz2 := hb2.size
  have B2 : Below w.heap.size w w2 := B1.trans (hb2.mono (by omega))
  have X2_0 := Lib.hid (box_below X1_0.out hb2 (by omega))
  have x2_0 := box_cells X2_0.out
  clear x1_0 X1_0
  go_wp2_with fail
  refine (spec_val k cl sq pn n ep rw nm dt L c m _ h1 h2 HR.out HM.out).mono ?_
  rintro e w3 ⟨a_w0, c_w0, rfl, h_w0, hb3⟩
  have hz3 := hb3.size
  have B3 : Below w.heap.size w w3 := B2.trans (hb3.mono (by omega))
  have X3_0 := Lib.hid (box_below X2_0.out hb3 (by omega))
  have x3_0 := box_cells X3_0.out
  clear x2_0 X2_0
  have s_w0 := Sl.of h_w0
  go_wp2_with fail
  refine (toCommand_any k cl sq pn n ep rw nm dt _).mono ?_
  rintro e w4 ⟨rfl, hb4⟩
  have hz4 := hb4.size
  replace s_w0 := s_w0.below hb4 (by omega)
  have B4 : Below w.heap.size w w4 := B3.trans (hb4.mono (by omega))
  have X4_0 := Lib.hid (box_below X3_0.out hb4 (by omega))
  have x4_0 := box_cells X4_0.out
  clear x3_0 X3_0
  go_wp2_with fail
  refine (impl_val k cl sq pn n ep rw nm dt L c m _ h1 h2 HR.out HM.out).mono ?_
  rintro e w5 ⟨a_g0, c_g0, rfl, h_g0, hb5⟩
  have hz5 := hb5.size
  replace s_w0 := s_w0.below hb5 (by omega)
  have B5 : Below w.heap.size w w5 := B4.trans (hb5.mono (by omega))
  have X5_0 := Lib.hid (box_below X4_0.out hb5 (by omega))
  have x5_0 := box_cells X5_0.out
  clear x4_0 X4_0
  have s_g0 := Sl.of h_g0
  go_wp2_with fail
  refine (eqByteS_same a_g0 a_w0 m c_g0 c_w0 L _ s_g0.at s_w0.at HM.out (by unfold maxLen; omega)).mono ?_
  rintro e w6 ⟨rfl, hb6⟩
  have hz6 := hb6.size
  replace s_w0 := s_w0.below hb6 (by omega)
  replace s_g0 := s_g0.below hb6 (by omega)
  have B6 : Below w.heap.size w w6 := B5.trans (hb6.mono (by omega))
  have X6_0 := Lib.hid (box_below X5_0.out hb6 (by omega))
  have x6_0 := box_cells X6_0.out
  clear x5_0 X5_0
  go_wp2_with fail
  refine (markByteS_sl _ _ a_g0 m c_g0 _ 1 _ s_g0 (by simp [u8s]; exact HM.out) (by omega) (by omega) (by omega)).mono ?_
  rintro e w7 ⟨rfl, m_g0, hg7⟩
  have hb7 := hg7.below
  have hz7 := hb7.size
  replace s_w0 := s_w0.below hb7 (by omega)
  have B7 : Below w.heap.size w w7 := B6.trans (hb7.mono (by omega))
  have X7_0 := Lib.hid (box_below X6_0.out hb7 (by omega))
  have x7_0 := box_cells X7_0.out
  clear x6_0 X6_0
  have s_g0 := m_g0
  go_wp2_with fail
  refine (heldByteS_any a_g0 m c_g0 1 _ s_g0.at (by omega) (by omega)).mono ?_
  rintro e w8 ⟨rfl, hb8⟩
  have hz8 := hb8.size
  replace s_w0 := s_w0.below hb8 (by omega)
  replace s_g0 := s_g0.below hb8 (by omega)
  have B8 : Below w.heap.size w w8 := B7.trans (hb8.mono (by omega))
  have X8_0 := Lib.hid (box_below X7_0.out hb8 (by omega))
  have x8_0 := box_cells X8_0.out
  clear x7_0 X7_0
  go_wp2_with fail
  refine (toCommand_any k cl sq pn n ep rw nm dt _).mono ?_
  rintro e w9 ⟨rfl, hb9⟩
  have hz9 := hb9.size
  replace s_w0 := s_w0.below hb9 (by omega)
  replace s_g0 := s_g0.below hb9 (by omega)
  have B9 : Below w.heap.size w w9 := B8.trans (hb9.mono (by omega))
  have X9_0 := Lib.hid (box_below X8_0.out hb9 (by omega))
  have x9_0 := box_cells X9_0.out
  clear x8_0 X8_0
  go_wp2_with fail
  refine (impl_val k cl sq pn n ep rw nm dt L c m _ h1 h2 HR.out HM.out).mono ?_
  rintro e w10 ⟨a_h0, c_h0, rfl, h_h0, hb10⟩
  have hz10 := hb10.size
  replace s_w0 := s_w0.below hb10 (by omega)
  replace s_g0 := s_g0.below hb10 (by omega)
  have B10 : Below w.heap.size w w10 := B9.trans (hb10.mono (by omega))
  have X10_0 := Lib.hid (box_below X9_0.out hb10 (by omega))
  have x10_0 := box_cells X10_0.out
  clear x9_0 X9_0
  have s_h0 := Sl.of h_h0
  go_wp2_with fail
  refine (eqByteS_same a_h0 a_w0 m c_h0 c_w0 L _ s_h0.at s_w0.at HM.out (by unfold maxLen; omega)).mono ?_
  rintro e w11 ⟨rfl, hb11⟩
  have hz11 := hb11.size
  replace s_w0 := s_w0.below hb11 (by omega)
  replace s_g0 := s_g0.below hb11 (by omega)
  replace s_h0 := s_h0.below hb11 (by omega)
  have B11 : Below w.heap.size w w11 := B10.trans (hb11.mono (by omega))
  have X11_0 := Lib.hid (box_below X10_0.out hb11 (by omega))
  have x11_0 := box_cells X11_0.out
  clear x10_0 X10_0
  go_wp2_with fail
  refine (heldByteS_any a_g0 m c_g0 1 _ s_g0.at (by omega) (by omega)).mono ?_
  rintro e w12 ⟨rfl, hb12⟩
  have hz12 := hb12.size
  replace s_w0 := s_w0.below hb12 (by omega)
  replace s_g0 := s_g0.below hb12 (by omega)
  replace s_h0 := s_h0.below hb12 (by omega)
  have B12 : Below w.heap.size w w12 := B11.trans (hb12.mono (by omega))
  have X12_0 := Lib.hid (box_below X11_0.out hb12 (by omega))
  have x12_0 := box_cells X12_0.out
  clear x11_0 X11_0
  go_wp2_with fail
  go_ret
  exact ⟨rfl, B12⟩
end Go.Proofs.Ytceaanampdcaeaa
