/-
  Contracts of ReadFrames of the given program and of its reference. Conditions: bounds on what is handed in.
-/
import Derived.Test.YtceaanampdcaeaaReadFrames2
namespace Go.Proofs.Ytceaanampdcaeaa
open Go.ChangeShapes Go.WideShapes Go.ChangeAt Go.RowKit
set_option linter.unusedVariables false

def readFramesR (l : List UInt8) : List ByteArray × Nat × Int := if 65536 < l.length then ([], 0, 2) else framesF ⟨l.toArray⟩
theorem readFramesR_le (l : List UInt8) : (readFramesR l).1.length ≤ 1048576 := by
  unfold readFramesR
  split
  · simp
  · have := frF_len ⟨l.toArray⟩ ((⟨l.toArray⟩ : ByteArray).size + 1) 0 []
    have h : (⟨l.toArray⟩ : ByteArray).size = l.length := by show l.toArray.size = _; simp
    simp only [List.length_nil, Nat.zero_add] at this
    show (framesF ⟨l.toArray⟩).1.length ≤ _
    unfold framesF
    omega

set_option maxHeartbeats 400000 in
theorem specReadFrames_any (ao : Option Addr) (n c : Nat) (l : List UInt8) (w : World) (ha : At w ao (u8s l)) (hl : l.length = n) (hn : n ≤ 16777216) :
    Calls Try.prog 20 #[.slice ao n c] w fun e w' => ∃ ao' cap', e = .returned (.tuple #[.slice ao' (readFramesR l).1.length cap', .int .i64 ((readFramesR l).2.1 : Int), .int .i64 (readFramesR l).2.2]) ∧ Mine w.heap.size w' ao' (strs (readFramesR l).1) ∧ Below w.heap.size w w' := by
  have hcv := conv_at (P := Try.prog) 29 9 5 n c Try.underlying29 Try.underlying5 Try.underlying9 ha hl
  have hsz : (⟨l.toArray⟩ : ByteArray).size = n := by rw [← hl]; rfl
  by_cases h1 : 65536 < n
  · have H : readFramesR l = ([], 0, 2) := by rw [readFramesR, hl, if_pos h1]
    rw [H]
    clear hl hcv hsz H
    refine Calls.mono (R := FramesPost w ([], 0, 2)) ?_ (fun e w' h => h)
    go_enter Try.func20, Try.ntmps20
    go_wp2
    go_ret3
    exact framesPost _ _ [] 0 0 2 rfl rfl rfl (.inl rfl) ((Below.refl _ _).alloc (Nat.le_refl _) _)
  · have h1' : n ≤ 65536 := by omega
    have H : readFramesR l = framesF ⟨l.toArray⟩ := by rw [readFramesR, hl, if_neg h1]
    have HR := Lib.hid (l02Frames_any ⟨l.toArray⟩ w (by rw [hsz]; exact h1'))
    rw [H]
    clear hl hsz h1 H
    generalize framesF ⟨l.toArray⟩ = F at *
    refine Calls.mono (R := FramesPost w F) ?_ (fun e w' h => h)
    go_enter Try.func20, Try.ntmps20
    go_wp2_with (go_at_call 33; refine HR.out.mono ?_; rintro e w1 ⟨a1, c1, rfl, hm1, hb1⟩)
    go_ret3
    exact framesPost _ c1 F.1 _ _ _ rfl rfl rfl hm1 hb1

set_option maxHeartbeats 400000 in
theorem implReadFrames_any (ao : Option Addr) (n c : Nat) (l : List UInt8) (w : World) (ha : At w ao (u8s l)) (hl : l.length = n) (hn : n ≤ 16777216) :
    Calls Try.prog 21 #[.slice ao n c] w fun e w' => ∃ ao' cap', e = .returned (.tuple #[.slice ao' (readFramesR l).1.length cap', .int .i64 ((readFramesR l).2.1 : Int), .int .i64 (readFramesR l).2.2]) ∧ Mine w.heap.size w' ao' (strs (readFramesR l).1) ∧ Below w.heap.size w w' := by
  have hbw : Below w.heap.size w (w.alloc (.cells #[.int .i64 n] 3)) := (Below.refl _ _).alloc (Nat.le_refl _) _
  have HI := Lib.hid (isLong_any (some ⟨w.heap.size, 0, none⟩) 1 1 [(n : Int)] (w.alloc (.cells #[.int .i64 n] 3)) (at_new _ _ _ _) rfl (by decide))
  have hcv := conv_at (P := Try.prog) 29 9 5 n c Try.underlying29 Try.underlying5 Try.underlying9 (ha.below hbw (Nat.le_refl _)) hl
  have hsz : (⟨l.toArray⟩ : ByteArray).size = n := by rw [← hl]; rfl
  by_cases h1 : 65536 < n
  · have H : readFramesR l = ([], 0, 2) := by rw [readFramesR, hl, if_pos h1]
    have hd : ([(n : Int)].any fun x => decide (65536 < x)) = true := by simp; omega
    rw [H]
    clear hl hcv hsz H
    refine Calls.mono (R := FramesPost w ([], 0, 2)) ?_ (fun e w' h => h)
    go_enter Try.func21, Try.ntmps21
    go_wp2_with (go_at_call 31; refine HI.out.mono ?_; rw [hd]; rintro e w' ⟨rfl, rfl⟩)
    go_ret3
    exact framesPost _ _ [] 0 0 2 rfl rfl rfl (.inl rfl) hbw
  · have hd : ([(n : Int)].any fun x => decide (65536 < x)) = false := by simp; omega
    have H : readFramesR l = framesF ⟨l.toArray⟩ := by rw [readFramesR, hl, if_neg h1]
    have HR := Lib.hid (readFrames_any ⟨l.toArray⟩ (w.alloc (.cells #[.int .i64 n] 3)) (by rw [hsz]; omega))
    rw [H]
    clear hl hsz h1 H
    generalize framesF ⟨l.toArray⟩ = F at *
    refine Calls.mono (R := FramesPost w F) ?_ (fun e w' h => h)
    go_enter Try.func21, Try.ntmps21
    go_wp2_with (first | (go_at_call 31; refine HI.out.mono ?_; rw [hd]; rintro e w' ⟨rfl, rfl⟩) | (go_at_call 34; refine HR.out.mono ?_; rintro e w1 ⟨a1, c1, rfl, hm1, hb1⟩))
    go_ret3
    exact framesPost _ c1 F.1 _ _ _ rfl rfl rfl (hm1.mono (by simp)) (hbw.trans (hb1.mono (by simp)))
end Go.Proofs.Ytceaanampdcaeaa
