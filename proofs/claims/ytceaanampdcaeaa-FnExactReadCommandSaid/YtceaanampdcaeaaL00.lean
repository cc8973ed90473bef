/-
  Contracts of the small functions of l00 of the given program, and the walk of the law FnExactNameOK. No condition.
-/
import Derived.Test.YtceaanampdcaeaaIn
namespace Go.Proofs.Ytceaanampdcaeaa
open Go.ChangeShapes Go.WideShapes Go.ChangeAt Go.RowKit
set_option linter.unusedVariables false

def letterB (c : Int) : Bool := decide (97 ≤ c) && decide (c ≤ 122) || decide (65 ≤ c) && decide (c ≤ 90) || decide (c = 95)
def digitB (c : Int) : Bool := decide (48 ≤ c) && decide (c ≤ 57)

theorem letter_any (c : Int) (w : World) :
    Calls Try.prog 58 #[.int .u8 c] w fun e w' => e = .returned (.bool (letterB c)) ∧ w = w' := by
  go_enter Try.func58, Try.ntmps58
  go_wp2
  all_goals go_ret
  all_goals exact ⟨ret_bool (by rw [Bool.eq_iff_iff]; simp [letterB]; omega), rfl⟩

theorem digit_any (c : Int) (w : World) :
    Calls Try.prog 59 #[.int .u8 c] w fun e w' => e = .returned (.bool (digitB c)) ∧ w = w' := by
  go_enter Try.func59, Try.ntmps59
  go_wp2
  all_goals go_ret
  all_goals exact ⟨ret_bool (by rw [Bool.eq_iff_iff]; simp [digitB]; omega), rfl⟩

def okAt (s : ByteArray) (i : Nat) : Bool := if h : i < s.size then letterB (s[i].toNat : Int) || (decide (0 < i) && digitB (s[i].toNat : Int)) else false
def nameB (s : ByteArray) : Bool := decide (1 ≤ s.size) && decide (s.size ≤ 40) && (List.range s.size).all (okAt s)
theorem okAt_eq {s : ByteArray} {k : Nat} (h : k < s.size) : okAt s k = (letterB (s[k].toNat : Int) || (decide (0 < k) && digitB (s[k].toNat : Int))) := by simp [okAt, h]
theorem nameB_false {s : ByteArray} {k : Nat} (h : k < s.size) (hk : okAt s k = false) : nameB s = false := by
  unfold nameB
  rw [List.all_eq_false.2 ⟨k, List.mem_range.2 h, by simp [hk]⟩]
  simp
theorem nameB_true {s : ByteArray} (h : ∀ j, j < s.size → okAt s j = true) : nameB s = (decide ((1 : Int) ≤ (s.size : Int)) && decide ((s.size : Int) ≤ 40)) := by
  unfold nameB
  rw [List.all_eq_true.2 (fun k hk => h k (List.mem_range.1 hk))]
  rw [Bool.eq_iff_iff]; simp; omega

theorem step_all {p : Nat → Bool} {k : Nat} (hk : p k = true) (h : ∀ j, j < k → p j = true) : ∀ j, j < k + 1 → p j = true := by
  intro j hj
  by_cases e : j = k
  · subst e; exact hk
  · exact h j (by omega)
set_option maxHeartbeats 1000000 in
theorem isName_any (s : ByteArray) (w : World) (hs : s.size ≤ maxLen) :
    Calls Try.prog 60 #[.string s] w fun e w' => e = .returned (.bool (nameB s)) ∧ w = w' := by
  unfold maxLen at hs
  go_enter Try.func60, Try.ntmps60
  go_wp2
  go_loop [8] (fun i => ∃ k : Nat, k ≤ s.size ∧ i = .int .i64 k ∧ Hid (∀ j, j < k → okAt s j = true)) (fun i => s.size - (intOf i).toNat)
  case atStart => exact ⟨0, Nat.zero_le _, rfl, fun j h => absurd h (by omega)⟩
  case round =>
    obtain ⟨k, hk, rfl, hall⟩ := hrel
    by_cases hlt : k < s.size
    · have hk0 : k = 0 ∨ 1 ≤ k := by omega
      rcases hk0 with rfl | h0
      all_goals
        have H := Lib.hid (okAt_eq hlt)
        go_wp2
        all_goals
          first
            | (go_round
               case rel => exact ⟨_ + 1, by omega, by go_num, step_all (by rw [H.out, Bool.eq_iff_iff]; simp [letterB, digitB] <;> omega) hall.out⟩
               case measure => simp [intOf]; omega)
            | (go_ret
               exact ⟨ret_bool (nameB_false hlt (by rw [H.out, Bool.eq_iff_iff]; simp [letterB, digitB] <;> omega)).symm, rfl⟩)
    · go_wp2_with (go_at_call 38; refine (within_any _ _ _ _).mono ?_; rintro e w' ⟨rfl, rfl⟩)
      go_ret
      exact ⟨ret_bool (nameB_true (fun j hj => hall.out j (by omega))).symm, rfl⟩

set_option maxHeartbeats 1000000 in
theorem l00Word_any (s : ByteArray) (w : World) (hs : s.size ≤ maxLen) :
    Calls Try.prog 36 #[.string s] w fun e w' => e = .returned (.bool (nameB s)) ∧ w = w' := by
  unfold maxLen at hs
  by_cases h1 : s.size < 1 ∨ 40 < s.size
  · have hf : nameB s = false := by (simp [nameB]; omega)
    have H := Lib.hid hf
    clear hf
    go_enter Try.func36, Try.ntmps36
    go_wp2_with (go_at_call 58; exfalso; omega)
    all_goals try (exfalso; omega)
    all_goals go_ret
    all_goals exact ⟨ret_bool H.out.symm, rfl⟩
  have hlt : 0 < s.size := by omega
  have H := Lib.hid (okAt_eq hlt)
  cases hl : letterB (s[0].toNat : Int)
  · go_enter Try.func36, Try.ntmps36
    go_wp2_with (go_at_call 58; refine (letter_any _ _).mono ?_; rintro e w' ⟨rfl, rfl⟩)
    all_goals try (exfalso; omega)
    go_ret
    exact ⟨ret_bool (nameB_false hlt (by rw [H.out, hl]; simp)).symm, rfl⟩
  · go_enter Try.func36, Try.ntmps36
    go_wp2_with (go_at_call 58; refine (letter_any _ _).mono ?_; rintro e w' ⟨rfl, rfl⟩)
    all_goals try (exfalso; omega)
    go_loop [3] (fun i => ∃ k : Nat, 1 ≤ k ∧ k ≤ s.size ∧ i = .int .i64 k ∧ Hid (∀ j, j < k → okAt s j = true)) (fun i => s.size - (intOf i).toNat)
    case atStart => exact ⟨1, Nat.le_refl _, by omega, rfl, fun j h => by
      have : j = 0 := by omega
      subst this
      rw [H.out, hl]; simp⟩
    case round =>
      obtain ⟨k, hk1, hk, rfl, hall⟩ := hrel
      clear hl H
      by_cases hkt : k < s.size
      · have H := Lib.hid (okAt_eq hkt)
        cases hl : letterB (s[k].toNat : Int) <;> cases hd : digitB (s[k].toNat : Int)
        all_goals
          go_wp2_with (first | (go_at_call 58; refine (letter_any _ _).mono ?_; rintro e w' ⟨rfl, rfl⟩) | (go_at_call 59; refine (digit_any _ _).mono ?_; rintro e w' ⟨rfl, rfl⟩))
          first
            | (go_round
               case rel => exact ⟨_ + 1, by omega, by omega, by go_num, step_all (by rw [H.out, hl, hd]; simp <;> omega) hall.out⟩
               case measure => simp [intOf]; omega)
            | (go_ret
               exact ⟨ret_bool (nameB_false hkt (by rw [H.out, hl, hd]; simp)).symm, rfl⟩)
      · go_wp2
        go_ret
        exact ⟨ret_bool (by rw [nameB_true (fun j hj => hall.out j (by omega))]; simp; omega), rfl⟩

theorem specNameOK_any (s : ByteArray) (w : World) (hs : s.size ≤ maxLen) :
    Calls Try.prog 26 #[.string s] w fun e w' => e = .returned (.bool (nameB s)) ∧ w = w' := by
  go_enter Try.func26, Try.ntmps26
  go_wp2_with (go_at_call 36; refine (l00Word_any _ _ hs).mono ?_; rintro e w' ⟨rfl, rfl⟩)
  go_ret
  exact ⟨rfl, rfl⟩

end Go.Proofs.Ytceaanampdcaeaa
