/-
  Contracts of CommandOK of the given program and of its reference. Conditions: bounds on the texts' lengths.
-/
import Derived.Test.YtceaanampdcaeaaL00
import Derived.Test.YtceaanampdcaeaaLong
import Derived.BigQuiet
namespace Go.Proofs.Ytceaanampdcaeaa
open Go.ChangeShapes Go.WideShapes Go.ChangeAt Go.RowKit
set_option linter.unusedVariables false
set_option linter.unusedSimpArgs false

def inR (x lo hi : Int) : Bool := decide (lo ≤ x) && decide (x ≤ hi)
def winB (s : ByteArray) : Bool := nameB s && decide ((s.size : Int) ≤ 12)
def noT (s : ByteArray) : Bool := s.toList.isEmpty
def cmdB (k cl sq pn n ep : Int) (rw : Bool) (nm dt : ByteArray) : Bool :=
  inR cl 0 200 && inR sq 1 60000 &&
    (if k = 1 then winB nm && (decide (pn = 0) && decide (n = 0) && decide (ep = 0) && !rw && noT dt)
    else if k = 2 then inR pn 1 1000 && (decide (n = 0) && decide (ep = 0) && noT nm && noT dt)
    else if k = 3 then inR pn 1 1000 && (decide (n = 0) && decide (ep = 0) && !rw && noT nm && noT dt)
    else if k = 4 then inR pn 1 1000 && inR n (-100) 100 && (decide (ep = 0) && !rw && noT nm && noT dt)
    else if k = 5 then inR pn 1 1000 && inR ep 1 60000 && inR dt.size 1 200 && (decide (n = 0) && !rw && noT nm)
    else if k = 6 then inR pn 1 1000 && inR n 0 200 && (decide (ep = 0) && !rw && noT nm && noT dt)
    else if k = 7 then inR n 2 24 && inR ep 2 10 && (decide (pn = 0) && !rw && noT nm && noT dt)
    else if k = 8 then winB nm && winB dt && (decide (pn = 0) && decide (n = 0) && decide (ep = 0) && !rw)
    else false)

theorem in_val (n lo hi : Int) (b : Bool) (w : World) (h : inR n lo hi = b) :
    Calls Try.prog 25 #[.int .i64 n, .int .i64 lo, .int .i64 hi] w fun e w' => e = .returned (.bool b) ∧ w = w' := by
  subst h; exact l01In_any n lo hi w
theorem with_val (n lo hi : Int) (b : Bool) (w : World) (h : inR n lo hi = b) :
    Calls Try.prog 38 #[.int .i64 n, .int .i64 lo, .int .i64 hi] w fun e w' => e = .returned (.bool b) ∧ w = w' := by
  subst h; exact within_any n lo hi w
theorem isPaneId_any (n : Int) (w : World) :
    Calls Try.prog 40 #[.int .i64 n] w fun e w' => e = .returned (.bool (inR n 1 1000)) ∧ w = w' := by
  go_enter Try.func40, Try.ntmps40
  go_wp2_with (go_at_call 38; refine (within_any _ _ _ _).mono ?_; rintro e w' ⟨rfl, rfl⟩)
  go_ret
  exact ⟨rfl, rfl⟩
theorem isClientId_any (n : Int) (w : World) :
    Calls Try.prog 37 #[.int .i64 n] w fun e w' => e = .returned (.bool (inR n 0 200)) ∧ w = w' := by
  go_enter Try.func37, Try.ntmps37
  go_wp2_with (go_at_call 38; refine (within_any _ _ _ _).mono ?_; rintro e w' ⟨rfl, rfl⟩)
  go_ret
  exact ⟨rfl, rfl⟩
theorem isSize_any (n m : Int) (w : World) :
    Calls Try.prog 41 #[.int .i64 n, .int .i64 m] w fun e w' => e = .returned (.bool (inR n 2 24 && inR m 2 10)) ∧ w = w' := by
  go_enter Try.func41, Try.ntmps41
  go_wp2_with (go_at_call 38; refine (with_val _ _ _ _ _ rfl).mono ?_; rintro e w' ⟨rfl, rfl⟩)
  all_goals go_ret
  all_goals exact ⟨ret_bool (by simp_all), rfl⟩
theorem isWindowName_any (s : ByteArray) (w : World) (hs : s.size ≤ maxLen) :
    Calls Try.prog 39 #[.string s] w fun e w' => e = .returned (.bool (winB s)) ∧ w = w' := by
  have HN := Lib.hid (isName_any s w hs)
  cases h : nameB s
  all_goals
    rw [h] at HN
    have H : Hid (winB s = (nameB s && decide ((s.size : Int) ≤ 12))) := rfl
    rw [h] at H
    clear h
    go_enter Try.func39, Try.ntmps39
    go_wp2_with (go_at_call 60; refine HN.out.mono ?_; rintro e w' ⟨rfl, rfl⟩)
    go_ret
    exact ⟨ret_bool (by rw [H.out]; simp), rfl⟩


theorem pn0 : inR 0 1 1000 = false := by decide
theorem no_name (s : ByteArray) (h : s.toList.isEmpty = true) : nameB s = false := by
  have : emptyB s = true := h
  rw [emptyB_eq, decide_eq_true_eq] at this
  simp [nameB, this]

set_option maxHeartbeats 1000000 in
set_option maxRecDepth 100000 in
theorem specCmd1 (cl sq pn n ep : Int) (rw : Bool) (nm dt : ByteArray) (w : World) (h1 : nm.size ≤ maxLen) (h2 : dt.size ≤ maxLen) :
    Calls Try.prog 8 #[.agg #[.int .i64 1, .int .i64 cl, .int .i64 sq, .int .i64 pn, .int .i64 n, .int .i64 ep, .bool rw, .string nm, .string dt]] w fun e w' => e = .returned (.bool (cmdB 1 cl sq pn n ep rw nm dt)) ∧ Below w.heap.size w w' := by
  go_enter Try.func8, Try.ntmps8
  go_wp2_with (first
    | (go_at_call 25; refine (in_val _ _ _ _ _ rfl).mono ?_; rintro e w' ⟨rfl, rfl⟩)
    | (go_at_call 26; refine (specNameOK_any _ _ (by first | exact h1 | exact h2)).mono ?_; rintro e w' ⟨rfl, rfl⟩))
  all_goals (go_ret; refine ⟨ret_bool ?_, ?_⟩)
  all_goals first
    | exact (Below.refl _ _).alloc (Nat.le_refl _) _
    | exact ((Below.refl _ _).alloc (Nat.le_refl _) _).alloc (by simp) _
    | (simp_all [cmdB, noT]; done)
    | (simp_all [cmdB, noT, winB, pn0, no_name]; done)
    | (simp_all [cmdB, noT, winB, inR]; done)
    | (simp_all [cmdB, noT, winB, inR]; omega)

set_option maxHeartbeats 1000000 in
set_option maxRecDepth 100000 in
theorem specCmd2 (cl sq pn n ep : Int) (rw : Bool) (nm dt : ByteArray) (w : World) (h1 : nm.size ≤ maxLen) (h2 : dt.size ≤ maxLen) :
    Calls Try.prog 8 #[.agg #[.int .i64 2, .int .i64 cl, .int .i64 sq, .int .i64 pn, .int .i64 n, .int .i64 ep, .bool rw, .string nm, .string dt]] w fun e w' => e = .returned (.bool (cmdB 2 cl sq pn n ep rw nm dt)) ∧ Below w.heap.size w w' := by
  go_enter Try.func8, Try.ntmps8
  go_wp2_with (first
    | (go_at_call 25; refine (in_val _ _ _ _ _ rfl).mono ?_; rintro e w' ⟨rfl, rfl⟩)
    | (go_at_call 26; refine (specNameOK_any _ _ (by first | exact h1 | exact h2)).mono ?_; rintro e w' ⟨rfl, rfl⟩))
  all_goals (go_ret; refine ⟨ret_bool ?_, ?_⟩)
  all_goals first
    | exact (Below.refl _ _).alloc (Nat.le_refl _) _
    | exact ((Below.refl _ _).alloc (Nat.le_refl _) _).alloc (by simp) _
    | (simp_all [cmdB, noT]; done)
    | (simp_all [cmdB, noT, winB, pn0, no_name]; done)
    | (simp_all [cmdB, noT, winB, inR]; done)
    | (simp_all [cmdB, noT, winB, inR]; omega)

set_option maxHeartbeats 1000000 in
set_option maxRecDepth 100000 in
theorem specCmd3 (cl sq pn n ep : Int) (rw : Bool) (nm dt : ByteArray) (w : World) (h1 : nm.size ≤ maxLen) (h2 : dt.size ≤ maxLen) :
    Calls Try.prog 8 #[.agg #[.int .i64 3, .int .i64 cl, .int .i64 sq, .int .i64 pn, .int .i64 n, .int .i64 ep, .bool rw, .string nm, .string dt]] w fun e w' => e = .returned (.bool (cmdB 3 cl sq pn n ep rw nm dt)) ∧ Below w.heap.size w w' := by
  go_enter Try.func8, Try.ntmps8
  go_wp2_with (first
    | (go_at_call 25; refine (in_val _ _ _ _ _ rfl).mono ?_; rintro e w' ⟨rfl, rfl⟩)
    | (go_at_call 26; refine (specNameOK_any _ _ (by first | exact h1 | exact h2)).mono ?_; rintro e w' ⟨rfl, rfl⟩))
  all_goals (go_ret; refine ⟨ret_bool ?_, ?_⟩)
  all_goals first
    | exact (Below.refl _ _).alloc (Nat.le_refl _) _
    | exact ((Below.refl _ _).alloc (Nat.le_refl _) _).alloc (by simp) _
    | (simp_all [cmdB, noT]; done)
    | (simp_all [cmdB, noT, winB, pn0, no_name]; done)
    | (simp_all [cmdB, noT, winB, inR]; done)
    | (simp_all [cmdB, noT, winB, inR]; omega)

set_option maxHeartbeats 1000000 in
set_option maxRecDepth 100000 in
theorem specCmd4 (cl sq pn n ep : Int) (rw : Bool) (nm dt : ByteArray) (w : World) (h1 : nm.size ≤ maxLen) (h2 : dt.size ≤ maxLen) :
    Calls Try.prog 8 #[.agg #[.int .i64 4, .int .i64 cl, .int .i64 sq, .int .i64 pn, .int .i64 n, .int .i64 ep, .bool rw, .string nm, .string dt]] w fun e w' => e = .returned (.bool (cmdB 4 cl sq pn n ep rw nm dt)) ∧ Below w.heap.size w w' := by
  go_enter Try.func8, Try.ntmps8
  go_wp2_with (first
    | (go_at_call 25; refine (in_val _ _ _ _ _ rfl).mono ?_; rintro e w' ⟨rfl, rfl⟩)
    | (go_at_call 26; refine (specNameOK_any _ _ (by first | exact h1 | exact h2)).mono ?_; rintro e w' ⟨rfl, rfl⟩))
  all_goals (go_ret; refine ⟨ret_bool ?_, ?_⟩)
  all_goals first
    | exact (Below.refl _ _).alloc (Nat.le_refl _) _
    | exact ((Below.refl _ _).alloc (Nat.le_refl _) _).alloc (by simp) _
    | (simp_all [cmdB, noT]; done)
    | (simp_all [cmdB, noT, winB, pn0, no_name]; done)
    | (simp_all [cmdB, noT, winB, inR]; done)
    | (simp_all [cmdB, noT, winB, inR]; omega)

set_option maxHeartbeats 1000000 in
set_option maxRecDepth 100000 in
theorem specCmd5 (cl sq pn n ep : Int) (rw : Bool) (nm dt : ByteArray) (w : World) (h1 : nm.size ≤ maxLen) (h2 : dt.size ≤ maxLen) :
    Calls Try.prog 8 #[.agg #[.int .i64 5, .int .i64 cl, .int .i64 sq, .int .i64 pn, .int .i64 n, .int .i64 ep, .bool rw, .string nm, .string dt]] w fun e w' => e = .returned (.bool (cmdB 5 cl sq pn n ep rw nm dt)) ∧ Below w.heap.size w w' := by
  go_enter Try.func8, Try.ntmps8
  go_wp2_with (first
    | (go_at_call 25; refine (in_val _ _ _ _ _ rfl).mono ?_; rintro e w' ⟨rfl, rfl⟩)
    | (go_at_call 26; refine (specNameOK_any _ _ (by first | exact h1 | exact h2)).mono ?_; rintro e w' ⟨rfl, rfl⟩))
  all_goals (go_ret; refine ⟨ret_bool ?_, ?_⟩)
  all_goals first
    | exact (Below.refl _ _).alloc (Nat.le_refl _) _
    | exact ((Below.refl _ _).alloc (Nat.le_refl _) _).alloc (by simp) _
    | (simp_all [cmdB, noT]; done)
    | (simp_all [cmdB, noT, winB, pn0, no_name]; done)
    | (simp_all [cmdB, noT, winB, inR]; done)
    | (simp_all [cmdB, noT, winB, inR]; omega)

set_option maxHeartbeats 1000000 in
set_option maxRecDepth 100000 in
theorem specCmd6 (cl sq pn n ep : Int) (rw : Bool) (nm dt : ByteArray) (w : World) (h1 : nm.size ≤ maxLen) (h2 : dt.size ≤ maxLen) :
    Calls Try.prog 8 #[.agg #[.int .i64 6, .int .i64 cl, .int .i64 sq, .int .i64 pn, .int .i64 n, .int .i64 ep, .bool rw, .string nm, .string dt]] w fun e w' => e = .returned (.bool (cmdB 6 cl sq pn n ep rw nm dt)) ∧ Below w.heap.size w w' := by
  go_enter Try.func8, Try.ntmps8
  go_wp2_with (first
    | (go_at_call 25; refine (in_val _ _ _ _ _ rfl).mono ?_; rintro e w' ⟨rfl, rfl⟩)
    | (go_at_call 26; refine (specNameOK_any _ _ (by first | exact h1 | exact h2)).mono ?_; rintro e w' ⟨rfl, rfl⟩))
  all_goals (go_ret; refine ⟨ret_bool ?_, ?_⟩)
  all_goals first
    | exact (Below.refl _ _).alloc (Nat.le_refl _) _
    | exact ((Below.refl _ _).alloc (Nat.le_refl _) _).alloc (by simp) _
    | (simp_all [cmdB, noT]; done)
    | (simp_all [cmdB, noT, winB, pn0, no_name]; done)
    | (simp_all [cmdB, noT, winB, inR]; done)
    | (simp_all [cmdB, noT, winB, inR]; omega)

set_option maxHeartbeats 1000000 in
set_option maxRecDepth 100000 in
theorem specCmd7 (cl sq pn n ep : Int) (rw : Bool) (nm dt : ByteArray) (w : World) (h1 : nm.size ≤ maxLen) (h2 : dt.size ≤ maxLen) :
    Calls Try.prog 8 #[.agg #[.int .i64 7, .int .i64 cl, .int .i64 sq, .int .i64 pn, .int .i64 n, .int .i64 ep, .bool rw, .string nm, .string dt]] w fun e w' => e = .returned (.bool (cmdB 7 cl sq pn n ep rw nm dt)) ∧ Below w.heap.size w w' := by
  go_enter Try.func8, Try.ntmps8
  go_wp2_with (first
    | (go_at_call 25; refine (in_val _ _ _ _ _ rfl).mono ?_; rintro e w' ⟨rfl, rfl⟩)
    | (go_at_call 26; refine (specNameOK_any _ _ (by first | exact h1 | exact h2)).mono ?_; rintro e w' ⟨rfl, rfl⟩))
  all_goals (go_ret; refine ⟨ret_bool ?_, ?_⟩)
  all_goals first
    | exact (Below.refl _ _).alloc (Nat.le_refl _) _
    | exact ((Below.refl _ _).alloc (Nat.le_refl _) _).alloc (by simp) _
    | (simp_all [cmdB, noT]; done)
    | (simp_all [cmdB, noT, winB, pn0, no_name]; done)
    | (simp_all [cmdB, noT, winB, inR]; done)
    | (simp_all [cmdB, noT, winB, inR]; omega)

set_option maxHeartbeats 1000000 in
set_option maxRecDepth 100000 in
theorem specCmd8 (cl sq pn n ep : Int) (rw : Bool) (nm dt : ByteArray) (w : World) (h1 : nm.size ≤ maxLen) (h2 : dt.size ≤ maxLen) :
    Calls Try.prog 8 #[.agg #[.int .i64 8, .int .i64 cl, .int .i64 sq, .int .i64 pn, .int .i64 n, .int .i64 ep, .bool rw, .string nm, .string dt]] w fun e w' => e = .returned (.bool (cmdB 8 cl sq pn n ep rw nm dt)) ∧ Below w.heap.size w w' := by
  go_enter Try.func8, Try.ntmps8
  go_wp2_with (first
    | (go_at_call 25; refine (in_val _ _ _ _ _ rfl).mono ?_; rintro e w' ⟨rfl, rfl⟩)
    | (go_at_call 26; refine (specNameOK_any _ _ (by first | exact h1 | exact h2)).mono ?_; rintro e w' ⟨rfl, rfl⟩))
  all_goals (go_ret; refine ⟨ret_bool ?_, ?_⟩)
  all_goals first
    | exact (Below.refl _ _).alloc (Nat.le_refl _) _
    | exact ((Below.refl _ _).alloc (Nat.le_refl _) _).alloc (by simp) _
    | (simp_all [cmdB, noT]; done)
    | (simp_all [cmdB, noT, winB, pn0, no_name]; done)
    | (simp_all [cmdB, noT, winB, inR]; done)
    | (simp_all [cmdB, noT, winB, inR]; omega)

set_option maxHeartbeats 1000000 in
set_option maxRecDepth 100000 in
theorem specCmd0 (k : Int) (cl sq pn n ep : Int) (rw : Bool) (nm dt : ByteArray) (w : World) (h1 : nm.size ≤ maxLen) (h2 : dt.size ≤ maxLen) (hk0 : k < 1 ∨ 8 < k) :
    Calls Try.prog 8 #[.agg #[.int .i64 k, .int .i64 cl, .int .i64 sq, .int .i64 pn, .int .i64 n, .int .i64 ep, .bool rw, .string nm, .string dt]] w fun e w' => e = .returned (.bool (cmdB k cl sq pn n ep rw nm dt)) ∧ Below w.heap.size w w' := by
  have hk : inR k 1 8 = false := by rw [inR, Bool.and_eq_false_iff, decide_eq_false_iff_not, decide_eq_false_iff_not]; omega
  have q1 : (k == 1) = false := by simp; omega
  have q2 : (k == 2) = false := by simp; omega
  have q3 : (k == 3) = false := by simp; omega
  have q4 : (k == 4) = false := by simp; omega
  have q5 : (k == 5) = false := by simp; omega
  have q6 : (k == 6) = false := by simp; omega
  have q7 : (k == 7) = false := by simp; omega
  have q8 : (k == 8) = false := by simp; omega
  have HC : Hid (cmdB k cl sq pn n ep rw nm dt = false) := by
    show _ = _
    rw [cmdB, if_neg (by omega), if_neg (by omega), if_neg (by omega), if_neg (by omega), if_neg (by omega), if_neg (by omega), if_neg (by omega), if_neg (by omega), Bool.and_false]
  go_enter Try.func8, Try.ntmps8
  go_wp2_with (first
    | (go_at_call 25; refine (in_val _ _ _ _ _ rfl).mono ?_; rintro e w' ⟨rfl, rfl⟩)
    | (go_at_call 26; refine (specNameOK_any _ _ (by first | exact h1 | exact h2)).mono ?_; rintro e w' ⟨rfl, rfl⟩))
  all_goals (go_ret; refine ⟨ret_bool ?_, ?_⟩)
  all_goals first
    | exact (Below.refl _ _).alloc (Nat.le_refl _) _
    | exact ((Below.refl _ _).alloc (Nat.le_refl _) _).alloc (by simp) _
    | (rw [HC.out]; done)
    | (rw [HC.out]; simp_all; done)
    | (simp_all [cmdB, noT]; done)
    | (simp_all [cmdB, noT, winB, pn0, no_name]; done)
    | (simp_all [cmdB, noT, winB, inR]; done)
    | (simp_all [cmdB, noT, winB, inR]; omega)

set_option maxHeartbeats 1000000 in
set_option maxRecDepth 100000 in
theorem implCmd1 (cl sq pn n ep : Int) (rw : Bool) (nm dt : ByteArray) (w : World) (h1 : nm.size ≤ maxLen) (h2 : dt.size ≤ maxLen) :
    Calls Try.prog 27 #[.agg #[.int .i64 1, .int .i64 cl, .int .i64 sq, .int .i64 pn, .int .i64 n, .int .i64 ep, .bool rw, .string nm, .string dt]] w fun e w' => e = .returned (.bool (cmdB 1 cl sq pn n ep rw nm dt)) ∧ Below w.heap.size w w' := by
  go_enter Try.func27, Try.ntmps27
  go_wp2_with (first
    | (go_at_call 38; refine (with_val _ _ _ _ _ rfl).mono ?_; rintro e w' ⟨rfl, rfl⟩)
    | (go_at_call 37; refine (isClientId_any _ _).mono ?_; rintro e w' ⟨rfl, rfl⟩)
    | (go_at_call 40; refine (isPaneId_any _ _).mono ?_; rintro e w' ⟨rfl, rfl⟩)
    | (go_at_call 41; refine (isSize_any _ _ _).mono ?_; rintro e w' ⟨rfl, rfl⟩)
    | (go_at_call 39; refine (isWindowName_any _ _ (by first | exact h1 | exact h2)).mono ?_; rintro e w' ⟨rfl, rfl⟩))
  all_goals (go_ret; refine ⟨ret_bool ?_, ?_⟩)
  all_goals first
    | exact (Below.refl _ _).alloc (Nat.le_refl _) _
    | exact ((Below.refl _ _).alloc (Nat.le_refl _) _).alloc (by simp) _
    | (simp_all [cmdB, noT]; done)
    | (simp_all [cmdB, noT, winB, pn0, no_name]; done)
    | (simp_all [cmdB, noT, winB, inR]; done)
    | (simp_all [cmdB, noT, winB, inR]; omega)

set_option maxHeartbeats 1000000 in
set_option maxRecDepth 100000 in
theorem implCmd2 (cl sq pn n ep : Int) (rw : Bool) (nm dt : ByteArray) (w : World) (h1 : nm.size ≤ maxLen) (h2 : dt.size ≤ maxLen) :
    Calls Try.prog 27 #[.agg #[.int .i64 2, .int .i64 cl, .int .i64 sq, .int .i64 pn, .int .i64 n, .int .i64 ep, .bool rw, .string nm, .string dt]] w fun e w' => e = .returned (.bool (cmdB 2 cl sq pn n ep rw nm dt)) ∧ Below w.heap.size w w' := by
  go_enter Try.func27, Try.ntmps27
  go_wp2_with (first
    | (go_at_call 38; refine (with_val _ _ _ _ _ rfl).mono ?_; rintro e w' ⟨rfl, rfl⟩)
    | (go_at_call 37; refine (isClientId_any _ _).mono ?_; rintro e w' ⟨rfl, rfl⟩)
    | (go_at_call 40; refine (isPaneId_any _ _).mono ?_; rintro e w' ⟨rfl, rfl⟩)
    | (go_at_call 41; refine (isSize_any _ _ _).mono ?_; rintro e w' ⟨rfl, rfl⟩)
    | (go_at_call 39; refine (isWindowName_any _ _ (by first | exact h1 | exact h2)).mono ?_; rintro e w' ⟨rfl, rfl⟩))
  all_goals (go_ret; refine ⟨ret_bool ?_, ?_⟩)
  all_goals first
    | exact (Below.refl _ _).alloc (Nat.le_refl _) _
    | exact ((Below.refl _ _).alloc (Nat.le_refl _) _).alloc (by simp) _
    | (simp_all [cmdB, noT]; done)
    | (simp_all [cmdB, noT, winB, pn0, no_name]; done)
    | (simp_all [cmdB, noT, winB, inR]; done)
    | (simp_all [cmdB, noT, winB, inR]; omega)

set_option maxHeartbeats 1000000 in
set_option maxRecDepth 100000 in
theorem implCmd3 (cl sq pn n ep : Int) (rw : Bool) (nm dt : ByteArray) (w : World) (h1 : nm.size ≤ maxLen) (h2 : dt.size ≤ maxLen) :
    Calls Try.prog 27 #[.agg #[.int .i64 3, .int .i64 cl, .int .i64 sq, .int .i64 pn, .int .i64 n, .int .i64 ep, .bool rw, .string nm, .string dt]] w fun e w' => e = .returned (.bool (cmdB 3 cl sq pn n ep rw nm dt)) ∧ Below w.heap.size w w' := by
  go_enter Try.func27, Try.ntmps27
  go_wp2_with (first
    | (go_at_call 38; refine (with_val _ _ _ _ _ rfl).mono ?_; rintro e w' ⟨rfl, rfl⟩)
    | (go_at_call 37; refine (isClientId_any _ _).mono ?_; rintro e w' ⟨rfl, rfl⟩)
    | (go_at_call 40; refine (isPaneId_any _ _).mono ?_; rintro e w' ⟨rfl, rfl⟩)
    | (go_at_call 41; refine (isSize_any _ _ _).mono ?_; rintro e w' ⟨rfl, rfl⟩)
    | (go_at_call 39; refine (isWindowName_any _ _ (by first | exact h1 | exact h2)).mono ?_; rintro e w' ⟨rfl, rfl⟩))
  all_goals (go_ret; refine ⟨ret_bool ?_, ?_⟩)
  all_goals first
    | exact (Below.refl _ _).alloc (Nat.le_refl _) _
    | exact ((Below.refl _ _).alloc (Nat.le_refl _) _).alloc (by simp) _
    | (simp_all [cmdB, noT]; done)
    | (simp_all [cmdB, noT, winB, pn0, no_name]; done)
    | (simp_all [cmdB, noT, winB, inR]; done)
    | (simp_all [cmdB, noT, winB, inR]; omega)

set_option maxHeartbeats 1000000 in
set_option maxRecDepth 100000 in
theorem implCmd4 (cl sq pn n ep : Int) (rw : Bool) (nm dt : ByteArray) (w : World) (h1 : nm.size ≤ maxLen) (h2 : dt.size ≤ maxLen) :
    Calls Try.prog 27 #[.agg #[.int .i64 4, .int .i64 cl, .int .i64 sq, .int .i64 pn, .int .i64 n, .int .i64 ep, .bool rw, .string nm, .string dt]] w fun e w' => e = .returned (.bool (cmdB 4 cl sq pn n ep rw nm dt)) ∧ Below w.heap.size w w' := by
  go_enter Try.func27, Try.ntmps27
  go_wp2_with (first
    | (go_at_call 38; refine (with_val _ _ _ _ _ rfl).mono ?_; rintro e w' ⟨rfl, rfl⟩)
    | (go_at_call 37; refine (isClientId_any _ _).mono ?_; rintro e w' ⟨rfl, rfl⟩)
    | (go_at_call 40; refine (isPaneId_any _ _).mono ?_; rintro e w' ⟨rfl, rfl⟩)
    | (go_at_call 41; refine (isSize_any _ _ _).mono ?_; rintro e w' ⟨rfl, rfl⟩)
    | (go_at_call 39; refine (isWindowName_any _ _ (by first | exact h1 | exact h2)).mono ?_; rintro e w' ⟨rfl, rfl⟩))
  all_goals (go_ret; refine ⟨ret_bool ?_, ?_⟩)
  all_goals first
    | exact (Below.refl _ _).alloc (Nat.le_refl _) _
    | exact ((Below.refl _ _).alloc (Nat.le_refl _) _).alloc (by simp) _
    | (simp_all [cmdB, noT]; done)
    | (simp_all [cmdB, noT, winB, pn0, no_name]; done)
    | (simp_all [cmdB, noT, winB, inR]; done)
    | (simp_all [cmdB, noT, winB, inR]; omega)

set_option maxHeartbeats 1000000 in
set_option maxRecDepth 100000 in
theorem implCmd5 (cl sq pn n ep : Int) (rw : Bool) (nm dt : ByteArray) (w : World) (h1 : nm.size ≤ maxLen) (h2 : dt.size ≤ maxLen) :
    Calls Try.prog 27 #[.agg #[.int .i64 5, .int .i64 cl, .int .i64 sq, .int .i64 pn, .int .i64 n, .int .i64 ep, .bool rw, .string nm, .string dt]] w fun e w' => e = .returned (.bool (cmdB 5 cl sq pn n ep rw nm dt)) ∧ Below w.heap.size w w' := by
  go_enter Try.func27, Try.ntmps27
  go_wp2_with (first
    | (go_at_call 38; refine (with_val _ _ _ _ _ rfl).mono ?_; rintro e w' ⟨rfl, rfl⟩)
    | (go_at_call 37; refine (isClientId_any _ _).mono ?_; rintro e w' ⟨rfl, rfl⟩)
    | (go_at_call 40; refine (isPaneId_any _ _).mono ?_; rintro e w' ⟨rfl, rfl⟩)
    | (go_at_call 41; refine (isSize_any _ _ _).mono ?_; rintro e w' ⟨rfl, rfl⟩)
    | (go_at_call 39; refine (isWindowName_any _ _ (by first | exact h1 | exact h2)).mono ?_; rintro e w' ⟨rfl, rfl⟩))
  all_goals (go_ret; refine ⟨ret_bool ?_, ?_⟩)
  all_goals first
    | exact (Below.refl _ _).alloc (Nat.le_refl _) _
    | exact ((Below.refl _ _).alloc (Nat.le_refl _) _).alloc (by simp) _
    | (simp_all [cmdB, noT]; done)
    | (simp_all [cmdB, noT, winB, pn0, no_name]; done)
    | (simp_all [cmdB, noT, winB, inR]; done)
    | (simp_all [cmdB, noT, winB, inR]; omega)

set_option maxHeartbeats 1000000 in
set_option maxRecDepth 100000 in
theorem implCmd6 (cl sq pn n ep : Int) (rw : Bool) (nm dt : ByteArray) (w : World) (h1 : nm.size ≤ maxLen) (h2 : dt.size ≤ maxLen) :
    Calls Try.prog 27 #[.agg #[.int .i64 6, .int .i64 cl, .int .i64 sq, .int .i64 pn, .int .i64 n, .int .i64 ep, .bool rw, .string nm, .string dt]] w fun e w' => e = .returned (.bool (cmdB 6 cl sq pn n ep rw nm dt)) ∧ Below w.heap.size w w' := by
  go_enter Try.func27, Try.ntmps27
  go_wp2_with (first
    | (go_at_call 38; refine (with_val _ _ _ _ _ rfl).mono ?_; rintro e w' ⟨rfl, rfl⟩)
    | (go_at_call 37; refine (isClientId_any _ _).mono ?_; rintro e w' ⟨rfl, rfl⟩)
    | (go_at_call 40; refine (isPaneId_any _ _).mono ?_; rintro e w' ⟨rfl, rfl⟩)
    | (go_at_call 41; refine (isSize_any _ _ _).mono ?_; rintro e w' ⟨rfl, rfl⟩)
    | (go_at_call 39; refine (isWindowName_any _ _ (by first | exact h1 | exact h2)).mono ?_; rintro e w' ⟨rfl, rfl⟩))
  all_goals (go_ret; refine ⟨ret_bool ?_, ?_⟩)
  all_goals first
    | exact (Below.refl _ _).alloc (Nat.le_refl _) _
    | exact ((Below.refl _ _).alloc (Nat.le_refl _) _).alloc (by simp) _
    | (simp_all [cmdB, noT]; done)
    | (simp_all [cmdB, noT, winB, pn0, no_name]; done)
    | (simp_all [cmdB, noT, winB, inR]; done)
    | (simp_all [cmdB, noT, winB, inR]; omega)

set_option maxHeartbeats 1000000 in
set_option maxRecDepth 100000 in
theorem implCmd7 (cl sq pn n ep : Int) (rw : Bool) (nm dt : ByteArray) (w : World) (h1 : nm.size ≤ maxLen) (h2 : dt.size ≤ maxLen) :
    Calls Try.prog 27 #[.agg #[.int .i64 7, .int .i64 cl, .int .i64 sq, .int .i64 pn, .int .i64 n, .int .i64 ep, .bool rw, .string nm, .string dt]] w fun e w' => e = .returned (.bool (cmdB 7 cl sq pn n ep rw nm dt)) ∧ Below w.heap.size w w' := by
  go_enter Try.func27, Try.ntmps27
  go_wp2_with (first
    | (go_at_call 38; refine (with_val _ _ _ _ _ rfl).mono ?_; rintro e w' ⟨rfl, rfl⟩)
    | (go_at_call 37; refine (isClientId_any _ _).mono ?_; rintro e w' ⟨rfl, rfl⟩)
    | (go_at_call 40; refine (isPaneId_any _ _).mono ?_; rintro e w' ⟨rfl, rfl⟩)
    | (go_at_call 41; refine (isSize_any _ _ _).mono ?_; rintro e w' ⟨rfl, rfl⟩)
    | (go_at_call 39; refine (isWindowName_any _ _ (by first | exact h1 | exact h2)).mono ?_; rintro e w' ⟨rfl, rfl⟩))
  all_goals (go_ret; refine ⟨ret_bool ?_, ?_⟩)
  all_goals first
    | exact (Below.refl _ _).alloc (Nat.le_refl _) _
    | exact ((Below.refl _ _).alloc (Nat.le_refl _) _).alloc (by simp) _
    | (simp_all [cmdB, noT]; done)
    | (simp_all [cmdB, noT, winB, pn0, no_name]; done)
    | (simp_all [cmdB, noT, winB, inR]; done)
    | (simp_all [cmdB, noT, winB, inR]; omega)

set_option maxHeartbeats 1000000 in
set_option maxRecDepth 100000 in
theorem implCmd8 (cl sq pn n ep : Int) (rw : Bool) (nm dt : ByteArray) (w : World) (h1 : nm.size ≤ maxLen) (h2 : dt.size ≤ maxLen) :
    Calls Try.prog 27 #[.agg #[.int .i64 8, .int .i64 cl, .int .i64 sq, .int .i64 pn, .int .i64 n, .int .i64 ep, .bool rw, .string nm, .string dt]] w fun e w' => e = .returned (.bool (cmdB 8 cl sq pn n ep rw nm dt)) ∧ Below w.heap.size w w' := by
  go_enter Try.func27, Try.ntmps27
  go_wp2_with (first
    | (go_at_call 38; refine (with_val _ _ _ _ _ rfl).mono ?_; rintro e w' ⟨rfl, rfl⟩)
    | (go_at_call 37; refine (isClientId_any _ _).mono ?_; rintro e w' ⟨rfl, rfl⟩)
    | (go_at_call 40; refine (isPaneId_any _ _).mono ?_; rintro e w' ⟨rfl, rfl⟩)
    | (go_at_call 41; refine (isSize_any _ _ _).mono ?_; rintro e w' ⟨rfl, rfl⟩)
    | (go_at_call 39; refine (isWindowName_any _ _ (by first | exact h1 | exact h2)).mono ?_; rintro e w' ⟨rfl, rfl⟩))
  all_goals (go_ret; refine ⟨ret_bool ?_, ?_⟩)
  all_goals first
    | exact (Below.refl _ _).alloc (Nat.le_refl _) _
    | exact ((Below.refl _ _).alloc (Nat.le_refl _) _).alloc (by simp) _
    | (simp_all [cmdB, noT]; done)
    | (simp_all [cmdB, noT, winB, pn0, no_name]; done)
    | (simp_all [cmdB, noT, winB, inR]; done)
    | (simp_all [cmdB, noT, winB, inR]; omega)

set_option maxHeartbeats 1000000 in
set_option maxRecDepth 100000 in
theorem implCmd0 (k : Int) (cl sq pn n ep : Int) (rw : Bool) (nm dt : ByteArray) (w : World) (h1 : nm.size ≤ maxLen) (h2 : dt.size ≤ maxLen) (hk0 : k < 1 ∨ 8 < k) :
    Calls Try.prog 27 #[.agg #[.int .i64 k, .int .i64 cl, .int .i64 sq, .int .i64 pn, .int .i64 n, .int .i64 ep, .bool rw, .string nm, .string dt]] w fun e w' => e = .returned (.bool (cmdB k cl sq pn n ep rw nm dt)) ∧ Below w.heap.size w w' := by
  have hk : inR k 1 8 = false := by rw [inR, Bool.and_eq_false_iff, decide_eq_false_iff_not, decide_eq_false_iff_not]; omega
  have q1 : (k == 1) = false := by simp; omega
  have q2 : (k == 2) = false := by simp; omega
  have q3 : (k == 3) = false := by simp; omega
  have q4 : (k == 4) = false := by simp; omega
  have q5 : (k == 5) = false := by simp; omega
  have q6 : (k == 6) = false := by simp; omega
  have q7 : (k == 7) = false := by simp; omega
  have q8 : (k == 8) = false := by simp; omega
  have HC : Hid (cmdB k cl sq pn n ep rw nm dt = false) := by
    show _ = _
    rw [cmdB, if_neg (by omega), if_neg (by omega), if_neg (by omega), if_neg (by omega), if_neg (by omega), if_neg (by omega), if_neg (by omega), if_neg (by omega), Bool.and_false]
  go_enter Try.func27, Try.ntmps27
  go_wp2_with (first
    | (go_at_call 38; refine (with_val _ _ _ _ _ rfl).mono ?_; rintro e w' ⟨rfl, rfl⟩)
    | (go_at_call 37; refine (isClientId_any _ _).mono ?_; rintro e w' ⟨rfl, rfl⟩)
    | (go_at_call 40; refine (isPaneId_any _ _).mono ?_; rintro e w' ⟨rfl, rfl⟩)
    | (go_at_call 41; refine (isSize_any _ _ _).mono ?_; rintro e w' ⟨rfl, rfl⟩)
    | (go_at_call 39; refine (isWindowName_any _ _ (by first | exact h1 | exact h2)).mono ?_; rintro e w' ⟨rfl, rfl⟩))
  all_goals (go_ret; refine ⟨ret_bool ?_, ?_⟩)
  all_goals first
    | exact (Below.refl _ _).alloc (Nat.le_refl _) _
    | exact ((Below.refl _ _).alloc (Nat.le_refl _) _).alloc (by simp) _
    | (rw [HC.out]; done)
    | (rw [HC.out]; simp_all; done)
    | (simp_all [cmdB, noT]; done)
    | (simp_all [cmdB, noT, winB, pn0, no_name]; done)
    | (simp_all [cmdB, noT, winB, inR]; done)
    | (simp_all [cmdB, noT, winB, inR]; omega)
end Go.Proofs.Ytceaanampdcaeaa
