/-
  The walk of the law FnExactFrameBytes of the given program. No condition.
-/
import Derived.Test.YthbjkmcpnhfimaaSlices
import Derived.Test.YthbjkmcpnhfimaaFrameBytes
namespace Go.Proofs.Ythbjkmcpnhfimaa
open Go.ChangeShapes Go.WideShapes Go.ChangeAt Go.RowKit
set_option linter.unusedVariables false

set_option maxHeartbeats 1000000 in
theorem walk_FnExactFrameBytes (s : ByteArray) (hs : s.size ≤ maxLen) (w : World) :
    Calls Try.prog 4 #[.string s] w fun e w' => e = .returned (.bool true) ∧ Below w.heap.size w w' := by
  have HS := Lib.hid hs
  unfold maxLen at hs
  by_cases hbig : 1048576 < s.size
  · go_enter Try.func4, Try.ntmps4
    go_wp2
    go_ret
    exact ⟨rfl, Below.refl _ _⟩
  · have HR : Hid ((frameR s.data.toList).1.length ≤ 1048576) := frameR_le _
    go_enter Try.func4, Try.ntmps4
    go_wp2_with fail
    refine (specFrameBytes_any s _ HS.out).mono ?_
    rintro e w1 ⟨a_w0, c_w0, rfl, h_w0, hb1⟩
    have hz1 := hb1.size
    have B1 : Below w.heap.size w w1 := hb1
    have s_w0 := Sl.of h_w0
    go_wp2_with fail
    refine (implFrameBytes_any s _ HS.out).mono ?_
    rintro e w2 ⟨a_g0, c_g0, rfl, h_g0, hb2⟩
    have hz2 := hb2.size
    replace s_w0 := s_w0.below hb2 (by omega)
    have B2 : Below w.heap.size w w2 := B1.trans (hb2.mono (by omega))
    have s_g0 := Sl.of h_g0
    go_wp2_with fail
    refine (eqByteS_same a_g0 a_w0 (frameR s.data.toList).1.length c_g0 c_w0 (frameR s.data.toList).1 _ s_g0.at s_w0.at rfl (by have := HR.out; unfold maxLen; omega)).mono ?_
    rintro e w3 ⟨rfl, hb3⟩
    have hz3 := hb3.size
    replace s_w0 := s_w0.below hb3 (by omega)
    replace s_g0 := s_g0.below hb3 (by omega)
    have B3 : Below w.heap.size w w3 := B2.trans (hb3.mono (by omega))
    go_wp2_with fail
    refine (markByteS_sl _ _ a_g0 (frameR s.data.toList).1.length c_g0 _ 1 _ s_g0 (by simp [u8s]) (by have := HR.out; omega) (by omega) (by omega)).mono ?_
    rintro e w4 ⟨rfl, m_g0, hg4⟩
    have hb4 := hg4.below
    have hz4 := hb4.size
    replace s_w0 := s_w0.below hb4 (by omega)
    have B4 : Below w.heap.size w w4 := B3.trans (hb4.mono (by omega))
    have s_g0 := m_g0
    go_wp2_with fail
    refine (heldByteS_any a_g0 (frameR s.data.toList).1.length c_g0 1 _ s_g0.at (by have := HR.out; omega) (by omega)).mono ?_
    rintro e w5 ⟨rfl, hb5⟩
    have hz5 := hb5.size
    replace s_w0 := s_w0.below hb5 (by omega)
    replace s_g0 := s_g0.below hb5 (by omega)
    have B5 : Below w.heap.size w w5 := B4.trans (hb5.mono (by omega))
    go_wp2_with fail
    refine (implFrameBytes_any s _ HS.out).mono ?_
    rintro e w6 ⟨a_h0, c_h0, rfl, h_h0, hb6⟩
    have hz6 := hb6.size
    replace s_w0 := s_w0.below hb6 (by omega)
    replace s_g0 := s_g0.below hb6 (by omega)
    have B6 : Below w.heap.size w w6 := B5.trans (hb6.mono (by omega))
    have s_h0 := Sl.of h_h0
    go_wp2_with fail
    refine (eqByteS_same a_h0 a_w0 (frameR s.data.toList).1.length c_h0 c_w0 (frameR s.data.toList).1 _ s_h0.at s_w0.at rfl (by have := HR.out; unfold maxLen; omega)).mono ?_
    rintro e w7 ⟨rfl, hb7⟩
    have hz7 := hb7.size
    replace s_w0 := s_w0.below hb7 (by omega)
    replace s_g0 := s_g0.below hb7 (by omega)
    replace s_h0 := s_h0.below hb7 (by omega)
    have B7 : Below w.heap.size w w7 := B6.trans (hb7.mono (by omega))
    go_wp2_with fail
    refine (heldByteS_any a_g0 (frameR s.data.toList).1.length c_g0 1 _ s_g0.at (by have := HR.out; omega) (by omega)).mono ?_
    rintro e w8 ⟨rfl, hb8⟩
    have hz8 := hb8.size
    replace s_w0 := s_w0.below hb8 (by omega)
    replace s_g0 := s_g0.below hb8 (by omega)
    replace s_h0 := s_h0.below hb8 (by omega)
    have B8 : Below w.heap.size w w8 := B7.trans (hb8.mono (by omega))
    go_wp2_with fail
    go_ret
    exact ⟨rfl, B8⟩
end Go.Proofs.Ythbjkmcpnhfimaa
