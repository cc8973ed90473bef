/-
  Contracts of HashText of the given program and of its reference, and the walk of the law FnExactHashText. No condition.
-/
import Derived.Test.YtbnlbfljgchcfaaHex
import Derived.Test.YtbnlbfljgchcfaaLong
namespace Go.Proofs.Ytbnlbfljgchcfaa
open Go.ChangeShapes Go.WideShapes Go.ChangeAt Go.RowKit
set_option linter.unusedVariables false

def hashTextR (s : ByteArray) : ByteArray × Int :=
  if 65536 < s.size then (⟨#[]⟩, 2) else if s.size = 32 then (⟨(hexOf s.data.toList).toArray⟩, 0) else (⟨#[]⟩, 1)

theorem specHashText_any (s : ByteArray) (w : World) (hs : s.size ≤ maxLen) :
    Calls Try.prog 9 #[.string s] w fun e w' => e = .returned (.tuple #[.string (hashTextR s).1, .int .i64 (hashTextR s).2]) ∧ Below w.heap.size w w' := by
  unfold maxLen at hs
  rcases (show 65536 < s.size ∨ s.size = 32 ∨ (s.size ≤ 65536 ∧ s.size ≠ 32) by omega) with h | h | ⟨h, h'⟩
  · have H : Hid (hashTextR s = (⟨#[]⟩, 2)) := if_pos h
    go_enter Try.func9, Try.ntmps9
    go_wp2
    go_ret2
    exact ⟨by rw [H.out]; rfl, Below.refl _ _⟩
  · have H : Hid (hashTextR s = (⟨(hexOf s.data.toList).toArray⟩, 0)) := by show hashTextR s = _; rw [hashTextR, if_neg (by omega), if_pos h]
    have h1 : ((s.size : Int) != 32) = false := by simp [h]
    go_enter Try.func9, Try.ntmps9
    go_wp2_with (go_at_call 15; refine (l01Hex_any _ _ (by omega)).mono ?_; rintro e w' ⟨rfl, hb⟩)
    go_ret2
    exact ⟨by rw [H.out]; rfl, ‹_›⟩
  · have H : Hid (hashTextR s = (⟨#[]⟩, 1)) := by show hashTextR s = _; rw [hashTextR, if_neg (by omega), if_neg h']
    have h1 : ((s.size : Int) != 32) = true := by simp; omega
    clear h'
    go_enter Try.func9, Try.ntmps9
    go_wp2
    go_ret2
    exact ⟨by rw [H.out]; rfl, Below.refl _ _⟩

theorem implHashText_any (s : ByteArray) (w : World) (hs : s.size ≤ maxLen) :
    Calls Try.prog 10 #[.string s] w fun e w' => e = .returned (.tuple #[.string (hashTextR s).1, .int .i64 (hashTextR s).2]) ∧ Below w.heap.size w w' := by
  unfold maxLen at hs
  have HI := Lib.hid (isLong_any (some ⟨w.heap.size, 0, none⟩) 1 1 [(s.size : Int)] (w.alloc (.cells #[.int .i64 s.size] 3)) (at_new _ _ _ _) rfl (by decide))
  have hbw : Below w.heap.size w (w.alloc (.cells #[.int .i64 s.size] 3)) := (Below.refl _ _).alloc (Nat.le_refl _) _
  rcases (show 65536 < s.size ∨ s.size = 32 ∨ (s.size ≤ 65536 ∧ s.size ≠ 32) by omega) with h | h | ⟨h, h'⟩
  · have H : Hid (hashTextR s = (⟨#[]⟩, 2)) := if_pos h
    have h2 : ([(s.size : Int)].any fun x => decide (65536 < x)) = true := by simp; omega
    go_enter Try.func10, Try.ntmps10
    go_wp2_with (go_at_call 16; refine HI.out.mono ?_; rw [h2]; rintro e w' ⟨rfl, rfl⟩)
    go_ret2
    exact ⟨by rw [H.out]; rfl, hbw⟩
  · have H : Hid (hashTextR s = (⟨(hexOf s.data.toList).toArray⟩, 0)) := by show hashTextR s = _; rw [hashTextR, if_neg (by omega), if_pos h]
    have h1 : ((s.size : Int) != 32) = false := by simp [h]
    have h3 : s.size ≤ 65536 := by omega
    have h2 : ([(s.size : Int)].any fun x => decide (65536 < x)) = false := by simp; omega
    clear h
    go_enter Try.func10, Try.ntmps10
    go_wp2_with (first | (go_at_call 16; refine HI.out.mono ?_; rw [h2]; rintro e w' ⟨rfl, rfl⟩) | (go_at_call 17; refine (hashText_any _ _ (by omega)).mono ?_; rintro e w' ⟨rfl, hb⟩))
    go_ret2
    exact ⟨by rw [H.out]; rfl, hbw.trans (Below.mono ‹_› (by simp))⟩
  · have H : Hid (hashTextR s = (⟨#[]⟩, 1)) := by show hashTextR s = _; rw [hashTextR, if_neg (by omega), if_neg h']
    have h1 : ((s.size : Int) != 32) = true := by simp; omega
    have h2 : ([(s.size : Int)].any fun x => decide (65536 < x)) = false := by simp; omega
    clear h'
    go_enter Try.func10, Try.ntmps10
    go_wp2_with (go_at_call 16; refine HI.out.mono ?_; rw [h2]; rintro e w' ⟨rfl, rfl⟩)
    go_ret2
    exact ⟨by rw [H.out]; rfl, hbw⟩

theorem walk_FnExactHashText (s : ByteArray) (hs : s.size ≤ maxLen) (w : World) :
    Calls Try.prog 5 #[.string s] w fun e w' => e = .returned (.bool true) ∧ Below w.heap.size w w' := by
  have hs' := hs
  unfold maxLen at hs'
  go_enter Try.func5, Try.ntmps5
  go_wp2_with (first | (go_at_call 9; refine (specHashText_any _ _ hs).mono ?_; rintro e w1 ⟨rfl, hb1⟩) | (go_at_call 10; refine (implHashText_any _ _ hs).mono ?_; rintro e w2 ⟨rfl, hb2⟩))
  · go_ret
    exact ⟨rfl, Below.refl _ _⟩
  · go_ret
    exact ⟨rfl, hb1.trans (hb2.mono hb1.size)⟩
end Go.Proofs.Ytbnlbfljgchcfaa
