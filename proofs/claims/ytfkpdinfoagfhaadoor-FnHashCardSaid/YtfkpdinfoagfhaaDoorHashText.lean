/-
  Contracts of HashText of the given program and of its reference, and the walk of the law FnExactHashText. No condition.
-/
import Derived.Test.YtfkpdinfoagfhaaDoorHex
import Derived.Test.YtfkpdinfoagfhaaDoorLong
namespace Go.Proofs.YtfkpdinfoagfhaaDoor
open Go.ChangeShapes Go.WideShapes Go.ChangeAt Go.RowKit
set_option linter.unusedVariables false

def hashTextR (s : ByteArray) : ByteArray × Int :=
  if 65536 < s.size then (⟨#[]⟩, 2) else if s.size = 32 then (⟨(hexOf s.data.toList).toArray⟩, 0) else (⟨#[]⟩, 1)

theorem implHashText_any (s : ByteArray) (w : World) (hs : s.size ≤ maxLen) :
    Calls Tryd.prog 12 #[.string s] w fun e w' => e = .returned (.tuple #[.string (hashTextR s).1, .int .i64 (hashTextR s).2]) ∧ Below w.heap.size w w' := by
  unfold maxLen at hs
  have HI := Lib.hid (isLong_any (some ⟨w.heap.size, 0, none⟩) 1 1 [(s.size : Int)] (w.alloc (.cells #[.int .i64 s.size] 3)) (at_new _ _ _ _) rfl (by decide))
  have hbw : Below w.heap.size w (w.alloc (.cells #[.int .i64 s.size] 3)) := (Below.refl _ _).alloc (Nat.le_refl _) _
  rcases (show 65536 < s.size ∨ s.size = 32 ∨ (s.size ≤ 65536 ∧ s.size ≠ 32) by omega) with h | h | ⟨h, h'⟩
  · have H : Hid (hashTextR s = (⟨#[]⟩, 2)) := if_pos h
    have h2 : ([(s.size : Int)].any fun x => decide (65536 < x)) = true := by simp; omega
    go_enter Tryd.func12, Tryd.ntmps12
    go_wp2_with (go_at_call 22; refine HI.out.mono ?_; rw [h2]; rintro e w' ⟨rfl, rfl⟩)
    go_ret2
    exact ⟨by rw [H.out]; rfl, hbw⟩
  · have H : Hid (hashTextR s = (⟨(hexOf s.data.toList).toArray⟩, 0)) := by show hashTextR s = _; rw [hashTextR, if_neg (by omega), if_pos h]
    have h1 : ((s.size : Int) != 32) = false := by simp [h]
    have h3 : s.size ≤ 65536 := by omega
    have h2 : ([(s.size : Int)].any fun x => decide (65536 < x)) = false := by simp; omega
    clear h
    go_enter Tryd.func12, Tryd.ntmps12
    go_wp2_with (first | (go_at_call 22; refine HI.out.mono ?_; rw [h2]; rintro e w' ⟨rfl, rfl⟩) | (go_at_call 24; refine (hashText_any _ _ (by omega)).mono ?_; rintro e w' ⟨rfl, hb⟩))
    go_ret2
    exact ⟨by rw [H.out]; rfl, hbw.trans (Below.mono ‹_› (by simp))⟩
  · have H : Hid (hashTextR s = (⟨#[]⟩, 1)) := by show hashTextR s = _; rw [hashTextR, if_neg (by omega), if_neg h']
    have h1 : ((s.size : Int) != 32) = true := by simp; omega
    have h2 : ([(s.size : Int)].any fun x => decide (65536 < x)) = false := by simp; omega
    clear h'
    go_enter Tryd.func12, Tryd.ntmps12
    go_wp2_with (go_at_call 22; refine HI.out.mono ?_; rw [h2]; rintro e w' ⟨rfl, rfl⟩)
    go_ret2
    exact ⟨by rw [H.out]; rfl, hbw⟩

end Go.Proofs.YtfkpdinfoagfhaaDoor
