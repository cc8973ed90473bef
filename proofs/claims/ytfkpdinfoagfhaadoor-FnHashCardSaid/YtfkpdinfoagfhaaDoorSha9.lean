/-
  Contracts of Hmac of the given program and of its reference, and the walk of the law FnExactHmac. Conditions: the tables stand.
-/
import Derived.Test.YtfkpdinfoagfhaaDoorSha8
import Derived.Test.YtfkpdinfoagfhaaDoorShaHold
namespace Go.Proofs.YtfkpdinfoagfhaaDoor
open Go.ChangeShapes Go.WideShapes Go.ChangeAt Go.RowKit
set_option linter.unusedVariables false

def hmacR (key msg : ByteArray) : ByteArray × Int := if 65536 < key.size ∨ 65536 < msg.size then (⟨#[]⟩, 2) else (⟨(hmacL key.data.toList msg.data.toList).toArray⟩, 0)

theorem specHmac_any (key msg : ByteArray) (w : World) (hk : key.size ≤ maxLen) (hm : msg.size ≤ maxLen) :
    Calls Tryd.prog 17 #[.string key, .string msg] w fun e w' => e = .returned (.tuple #[.string (hmacR key msg).1, .int .i64 (hmacR key msg).2]) ∧ Below w.heap.size w w' := by
  unfold maxLen at hk hm
  by_cases h1 : 65536 < key.size
  · have H : Hid (hmacR key msg = (⟨#[]⟩, 2)) := if_pos (Or.inl h1)
    go_enter Tryd.func17, Tryd.ntmps17
    go_wp2
    go_ret2
    exact ⟨by rw [H.out]; rfl, Below.refl _ _⟩
  · have d1 : decide (65536 < (key.size : Int)) = false := by simp; omega
    by_cases h2 : 65536 < msg.size
    · have H : Hid (hmacR key msg = (⟨#[]⟩, 2)) := if_pos (Or.inr h2)
      have d2 : decide (65536 < (msg.size : Int)) = true := by simp; omega
      go_enter Tryd.func17, Tryd.ntmps17
      go_wp2
      go_ret2
      exact ⟨by rw [H.out]; rfl, Below.refl _ _⟩
    · have H : Hid (hmacR key msg = (⟨(hmacL key.data.toList msg.data.toList).toArray⟩, 0)) := if_neg (by omega)
      have d2 : decide (65536 < (msg.size : Int)) = false := by simp; omega
      go_enter Tryd.func17, Tryd.ntmps17
      go_wp2_with fail
      refine (l02Hmac_any key msg w (by omega) (by omega)).mono ?_
      rintro e w1 ⟨rfl, hb⟩
      go_wp2
      go_ret2
      exact ⟨by rw [H.out]; rfl, hb⟩

theorem implHmac_any (key msg : ByteArray) (w : World) (hk : key.size ≤ maxLen) (hm : msg.size ≤ maxLen) (hT : Tabs w) :
    Calls Tryd.prog 18 #[.string key, .string msg] w fun e w' => e = .returned (.tuple #[.string (hmacR key msg).1, .int .i64 (hmacR key msg).2]) ∧ Below w.heap.size w w' := by
  unfold maxLen at hk hm
  have HI := Lib.hid (isLong_any (some ⟨w.heap.size, 0, none⟩) 2 2 [(key.size : Int), (msg.size : Int)] (w.alloc (.cells #[.int .i64 key.size, .int .i64 msg.size] 3)) (at_new _ _ _ _) rfl (by decide))
  have hbw : Below w.heap.size w (w.alloc (.cells #[.int .i64 key.size, .int .i64 msg.size] 3)) := (Below.refl _ _).alloc (Nat.le_refl _) _
  have HT := Lib.hid hT
  clear hT
  by_cases h1 : 65536 < key.size ∨ 65536 < msg.size
  · have H : Hid (hmacR key msg = (⟨#[]⟩, 2)) := if_pos h1
    have h2 : ([(key.size : Int), (msg.size : Int)].any fun x => decide (65536 < x)) = true := by simp; omega
    clear h1
    go_enter Tryd.func18, Tryd.ntmps18
    go_wp2_with (go_at_call 22; refine HI.out.mono ?_; rw [h2]; rintro e w' ⟨rfl, rfl⟩)
    go_ret2
    exact ⟨by rw [H.out]; rfl, hbw⟩
  · have H : Hid (hmacR key msg = (⟨(hmacL key.data.toList msg.data.toList).toArray⟩, 0)) := if_neg h1
    have h2 : ([(key.size : Int), (msg.size : Int)].any fun x => decide (65536 < x)) = false := by simp; omega
    have h3 : key.size ≤ 65536 := by omega
    have h4 : msg.size ≤ 65536 := by omega
    clear h1
    go_enter Tryd.func18, Tryd.ntmps18
    go_wp2_with (first | (go_at_call 22; refine HI.out.mono ?_; rw [h2]; rintro e w' ⟨rfl, rfl⟩) | (go_at_call 31; refine (hmac_any key msg _ (by omega) (by omega) (HT.out.below hbw)).mono ?_; rintro e w' ⟨rfl, hb⟩))
    go_ret2
    exact ⟨by rw [H.out]; rfl, hbw.trans (Below.mono ‹_› (by simp))⟩

theorem walk_FnExactHmac (key : ByteArray) (hk : key.size ≤ maxLen) (msg : ByteArray) (hm : msg.size ≤ maxLen) (w : World) (hS : Start w) (hR : Rnd w) :
    Calls Tryd.prog 5 #[.string key, .string msg] w fun e w' => e = .returned (.bool true) ∧ Below w.heap.size w w' := by
  have hk' := hk
  have hm' := hm
  unfold maxLen at hk' hm'
  have HT : Hid (Tabs w) := ⟨hR, hS⟩
  clear hR hS
  go_enter Tryd.func5, Tryd.ntmps5
  go_wp2_with (first | (go_at_call 17; refine (specHmac_any _ _ _ hk hm).mono ?_; rintro e w1 ⟨rfl, hb1⟩) | (go_at_call 18; refine (implHmac_any _ _ _ hk hm (HT.out.below hb1)).mono ?_; rintro e w2 ⟨rfl, hb2⟩))
  · go_ret
    exact ⟨rfl, Below.refl _ _⟩
  · go_ret
    exact ⟨rfl, Below.refl _ _⟩
  · go_ret
    exact ⟨rfl, hb1.trans (hb2.mono hb1.size)⟩
end Go.Proofs.YtfkpdinfoagfhaaDoor
