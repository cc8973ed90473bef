/-
  The walk of the law FnExactReadFrames of the given program. No condition.
-/
import Derived.Test.YtceaanampdcaeaaReadFrames3
namespace Go.Proofs.Ytceaanampdcaeaa
open Go.ChangeShapes Go.WideShapes Go.ChangeAt Go.RowKit
set_option linter.unusedVariables false

set_option maxHeartbeats 1000000 in
theorem walk_FnExactReadFrames (w : World) (a : Option Addr) (len cap : Nat) (l : List UInt8) (ha : At w a (u8s l)) (hl : l.length = len) (hs : len ≤ maxLen) :
    Calls Try.prog 6 #[.slice a len cap] w fun e w' => e = .returned (.bool true) ∧ Below w.heap.size w w' := by
  unfold maxLen at hs
  have HL := Lib.hid hl
  by_cases hbig : 1048576 < len
  · clear hl
    go_enter Try.func6, Try.ntmps6
    go_wp2
    go_ret
    exact ⟨rfl, Below.refl _ _⟩
  · have HR : Hid ((readFramesR l).1.length ≤ 1048576) := readFramesR_le l
    clear hl
    go_enter Try.func6, Try.ntmps6
    go_wp2_with fail
    refine (toByteS_any a len cap l _ ha HL.out (by omega)).mono ?_
    rintro e w1 ⟨a_t0, c_t0, rfl, h_t0, hb1⟩
    have hz1 := hb1.size
    have B1 : Below w.heap.size w w1 := hb1
    have s_t0 := Sl.of h_t0
    go_wp2_with fail
    refine (specReadFrames_any a_t0 len c_t0 l _ s_t0.at HL.out (by omega)).mono ?_
    rintro e w2 ⟨a_w0, c_w0, rfl, h_w0, hb2⟩
    have hz2 := hb2.size
    replace s_t0 := s_t0.below hb2 (by omega)
    have B2 : Below w.heap.size w w2 := B1.trans (hb2.mono (by omega))
    have s_w0 := Sl.of h_w0
    go_wp2_with fail
    refine (toByteS_any a len cap l _ (ha.below B2 (Nat.le_refl _)) HL.out (by omega)).mono ?_
    rintro e w3 ⟨a_x0, c_x0, rfl, h_x0, hb3⟩
    have hz3 := hb3.size
    replace s_t0 := s_t0.below hb3 (by omega)
    replace s_w0 := s_w0.below hb3 (by omega)
    have B3 : Below w.heap.size w w3 := B2.trans (hb3.mono (by omega))
    have s_x0 := Sl.of h_x0
    go_wp2_with fail
    refine (implReadFrames_any a_x0 len c_x0 l _ s_x0.at HL.out (by omega)).mono ?_
    rintro e w4 ⟨a_g0, c_g0, rfl, h_g0, hb4⟩
    have hz4 := hb4.size
    replace s_t0 := s_t0.below hb4 (by omega)
    replace s_w0 := s_w0.below hb4 (by omega)
    replace s_x0 := s_x0.below hb4 (by omega)
    have B4 : Below w.heap.size w w4 := B3.trans (hb4.mono (by omega))
    have s_g0 := Sl.of h_g0
    go_wp2_with fail
    refine (eqStringS_same a_g0 a_w0 (readFramesR l).1.length c_g0 c_w0 (readFramesR l).1 _ s_g0.at s_w0.at rfl (by have := HR.out; unfold maxLen; omega)).mono ?_
    rintro e w5 ⟨rfl, hb5⟩
    have hz5 := hb5.size
    replace s_t0 := s_t0.below hb5 (by omega)
    replace s_w0 := s_w0.below hb5 (by omega)
    replace s_x0 := s_x0.below hb5 (by omega)
    replace s_g0 := s_g0.below hb5 (by omega)
    have B5 : Below w.heap.size w w5 := B4.trans (hb5.mono (by omega))
    go_wp2_with fail
    refine (toByteS_any a len cap l _ (ha.below B5 (Nat.le_refl _)) HL.out (by omega)).mono ?_
    rintro e w6 ⟨a_t2, c_t2, rfl, h_t2, hb6⟩
    have hz6 := hb6.size
    replace s_t0 := s_t0.below hb6 (by omega)
    replace s_w0 := s_w0.below hb6 (by omega)
    replace s_x0 := s_x0.below hb6 (by omega)
    replace s_g0 := s_g0.below hb6 (by omega)
    have B6 : Below w.heap.size w w6 := B5.trans (hb6.mono (by omega))
    have s_t2 := Sl.of h_t2
    go_wp2_with fail
    refine (eqByteS_same a_x0 a_t2 len c_x0 c_t2 l _ s_x0.at s_t2.at HL.out (by unfold maxLen; omega)).mono ?_
    rintro e w7 ⟨rfl, hb7⟩
    have hz7 := hb7.size
    replace s_t0 := s_t0.below hb7 (by omega)
    replace s_w0 := s_w0.below hb7 (by omega)
    replace s_x0 := s_x0.below hb7 (by omega)
    replace s_g0 := s_g0.below hb7 (by omega)
    replace s_t2 := s_t2.below hb7 (by omega)
    have B7 : Below w.heap.size w w7 := B6.trans (hb7.mono (by omega))
    go_wp2_with fail
    refine (markByteS_sl _ _ a_x0 len c_x0 _ 1 _ s_x0 (by simp [u8s]; exact HL.out) (by omega) (by omega) (by omega)).mono ?_
    rintro e w8 ⟨rfl, m_x0, hg8⟩
    have hb8 := hg8.below
    have hz8 := hb8.size
    replace s_t0 := s_t0.below hb8 (by omega)
    replace s_w0 := s_w0.below hb8 (by omega)
    replace s_g0 := s_g0.above hg8 (by omega)
    replace s_t2 := s_t2.above hg8 (by omega)
    have B8 : Below w.heap.size w w8 := B7.trans (hb8.mono (by omega))
    have s_x0 := m_x0
    go_wp2_with fail
    refine (eqStringS_same a_g0 a_w0 (readFramesR l).1.length c_g0 c_w0 (readFramesR l).1 _ s_g0.at s_w0.at rfl (by have := HR.out; unfold maxLen; omega)).mono ?_
    rintro e w9 ⟨rfl, hb9⟩
    have hz9 := hb9.size
    replace s_t0 := s_t0.below hb9 (by omega)
    replace s_w0 := s_w0.below hb9 (by omega)
    replace s_x0 := s_x0.below hb9 (by omega)
    replace s_g0 := s_g0.below hb9 (by omega)
    replace s_t2 := s_t2.below hb9 (by omega)
    have B9 : Below w.heap.size w w9 := B8.trans (hb9.mono (by omega))
    go_wp2_with fail
    refine (markStringS_sl _ _ a_g0 (readFramesR l).1.length c_g0 _ 1 _ s_g0 (by simp [strs]) (by have := HR.out; omega) (by omega) (by omega) (by omega)).mono ?_
    rintro e w10 ⟨rfl, m_g0, hg10⟩
    have hb10 := hg10.below
    have hz10 := hb10.size
    replace s_t0 := s_t0.below hb10 (by omega)
    replace s_w0 := s_w0.below hb10 (by omega)
    replace s_x0 := s_x0.below hb10 (by omega)
    replace s_t2 := s_t2.above hg10 (by omega)
    have B10 : Below w.heap.size w w10 := B9.trans (hb10.mono (by omega))
    have s_g0 := m_g0
    go_wp2_with fail
    refine (heldStringS_any a_g0 (readFramesR l).1.length c_g0 1 _ s_g0.at (by have := HR.out; omega) (by omega) (by omega)).mono ?_
    rintro e w11 ⟨rfl, hb11⟩
    have hz11 := hb11.size
    replace s_t0 := s_t0.below hb11 (by omega)
    replace s_w0 := s_w0.below hb11 (by omega)
    replace s_x0 := s_x0.below hb11 (by omega)
    replace s_g0 := s_g0.below hb11 (by omega)
    replace s_t2 := s_t2.below hb11 (by omega)
    have B11 : Below w.heap.size w w11 := B10.trans (hb11.mono (by omega))
    go_wp2_with fail
    refine (toByteS_any a len cap l _ (ha.below B11 (Nat.le_refl _)) HL.out (by omega)).mono ?_
    rintro e w12 ⟨a_t3, c_t3, rfl, h_t3, hb12⟩
    have hz12 := hb12.size
    replace s_t0 := s_t0.below hb12 (by omega)
    replace s_w0 := s_w0.below hb12 (by omega)
    replace s_x0 := s_x0.below hb12 (by omega)
    replace s_g0 := s_g0.below hb12 (by omega)
    replace s_t2 := s_t2.below hb12 (by omega)
    have B12 : Below w.heap.size w w12 := B11.trans (hb12.mono (by omega))
    have s_t3 := Sl.of h_t3
    go_wp2_with fail
    refine (implReadFrames_any a_t3 len c_t3 l _ s_t3.at HL.out (by omega)).mono ?_
    rintro e w13 ⟨a_h0, c_h0, rfl, h_h0, hb13⟩
    have hz13 := hb13.size
    replace s_t0 := s_t0.below hb13 (by omega)
    replace s_w0 := s_w0.below hb13 (by omega)
    replace s_x0 := s_x0.below hb13 (by omega)
    replace s_g0 := s_g0.below hb13 (by omega)
    replace s_t2 := s_t2.below hb13 (by omega)
    replace s_t3 := s_t3.below hb13 (by omega)
    have B13 : Below w.heap.size w w13 := B12.trans (hb13.mono (by omega))
    have s_h0 := Sl.of h_h0
    go_wp2_with fail
    refine (eqStringS_same a_h0 a_w0 (readFramesR l).1.length c_h0 c_w0 (readFramesR l).1 _ s_h0.at s_w0.at rfl (by have := HR.out; unfold maxLen; omega)).mono ?_
    rintro e w14 ⟨rfl, hb14⟩
    have hz14 := hb14.size
    replace s_t0 := s_t0.below hb14 (by omega)
    replace s_w0 := s_w0.below hb14 (by omega)
    replace s_x0 := s_x0.below hb14 (by omega)
    replace s_g0 := s_g0.below hb14 (by omega)
    replace s_t2 := s_t2.below hb14 (by omega)
    replace s_t3 := s_t3.below hb14 (by omega)
    replace s_h0 := s_h0.below hb14 (by omega)
    have B14 : Below w.heap.size w w14 := B13.trans (hb14.mono (by omega))
    go_wp2_with fail
    refine (heldStringS_any a_g0 (readFramesR l).1.length c_g0 1 _ s_g0.at (by have := HR.out; omega) (by omega) (by omega)).mono ?_
    rintro e w15 ⟨rfl, hb15⟩
    have hz15 := hb15.size
    replace s_t0 := s_t0.below hb15 (by omega)
    replace s_w0 := s_w0.below hb15 (by omega)
    replace s_x0 := s_x0.below hb15 (by omega)
    replace s_g0 := s_g0.below hb15 (by omega)
    replace s_t2 := s_t2.below hb15 (by omega)
    replace s_t3 := s_t3.below hb15 (by omega)
    replace s_h0 := s_h0.below hb15 (by omega)
    have B15 : Below w.heap.size w w15 := B14.trans (hb15.mono (by omega))
    go_wp2_with fail
    go_ret
    exact ⟨rfl, B15⟩
end Go.Proofs.Ytceaanampdcaeaa
