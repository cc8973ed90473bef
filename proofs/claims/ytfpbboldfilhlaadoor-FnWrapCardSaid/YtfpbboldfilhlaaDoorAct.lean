/-
  Contracts of the small functions of l03 of the given program and of its reference: controls, escapes, runes, titles, arguments. Conditions: bounds on lengths.
-/
import Derived.Test.YtfpbboldfilhlaaDoorIn
import Derived.Test.YtfpbboldfilhlaaDoorLong
import Derived.Test.YtfpbboldfilhlaaDoorShelf
import Derived.Lib.Bytealg
namespace Go.Proofs.YtfpbboldfilhlaaDoor
open Go.ChangeShapes Go.WideShapes Go.ChangeAt Go.RowKit
set_option linter.unusedVariables false
set_option linter.unusedSimpArgs false

def inR (x lo hi : Int) : Bool := decide (lo ≤ x) && decide (x ≤ hi)
def noT (s : ByteArray) : Bool := s.toList.isEmpty
theorem with_val (n lo hi : Int) (b : Bool) (w : World) (h : inR n lo hi = b) :
    Calls Tryd.prog 17 #[.int .i64 n, .int .i64 lo, .int .i64 hi] w fun e w' => e = .returned (.bool b) ∧ w = w' := by
  subst h; exact within_any n lo hi w

def argOk (n : Int) : Bool := inR n (-1) 9999
def argsB (zs : List Int) : Bool := inR zs.length 1 8 && zs.all argOk
def runeB (n : Int) : Bool := inR n 32 1114111 && n != 127 && !inR n 55296 57343
def ctlB (n : Int) : Bool := inR n 7 10 || n == 13
def escB (n : Int) : Bool := n == 55 || n == 56 || n == 68 || n == 69 || n == 77 || n == 99
def chrOk (b : UInt8) : Bool := decide (32 ≤ b.toNat) && decide (b.toNat ≤ 126)
def titleB (s : ByteArray) : Bool := decide (s.size ≤ 40) && s.data.toList.all chrOk

theorem isRune_any (n : Int) (w : World) :
    Calls Tryd.prog 27 #[.int .i64 n] w fun e w' => e = .returned (.bool (runeB n)) ∧ w = w' := by
  go_enter Tryd.func27, Tryd.ntmps27
  go_wp2_with (go_at_call 17; refine (with_val _ _ _ _ _ rfl).mono ?_; rintro e w' ⟨rfl, rfl⟩)
  all_goals go_ret
  all_goals exact ⟨ret_bool (by simp_all [runeB]), rfl⟩
theorem isControl_any (n : Int) (w : World) :
    Calls Tryd.prog 61 #[.int .i64 n] w fun e w' => e = .returned (.bool (ctlB n)) ∧ w = w' := by
  go_enter Tryd.func61, Tryd.ntmps61
  go_wp2_with (go_at_call 17; refine (with_val _ _ _ _ _ rfl).mono ?_; rintro e w' ⟨rfl, rfl⟩)
  all_goals go_ret
  all_goals exact ⟨ret_bool (by simp_all [ctlB]), rfl⟩
theorem esc_index (n : Int) (h : inR n 1 127 = true) : decide (0 ≤ Lib.indexByte [55, 56, 68, 69, 77, 99] (n % 256).toNat.toUInt8) = escB n := by
  have h1 : 1 ≤ n ∧ n ≤ 127 := by simpa [inR] using h
  obtain ⟨m, rfl⟩ := Int.eq_ofNat_of_zero_le (show 0 ≤ n by omega)
  have hm : m ≤ 127 := by omega
  have key : ∀ m : Fin 128, decide (0 ≤ Lib.indexByte [55, 56, 68, 69, 77, 99] (((m.val : Nat) : Int) % 256).toNat.toUInt8) = escB ((m.val : Nat) : Int) := by decide +kernel
  exact key ⟨m, by omega⟩
theorem isEscape_any (n : Int) (w : World) :
    Calls Tryd.prog 48 #[.int .i64 n] w fun e w' => e = .returned (.bool (escB n)) ∧ w = w' := by
  cases h : inR n 1 127
  · have H : Hid (escB n = false) := by
      have h1 : ¬ (1 ≤ n ∧ n ≤ 127) := by simpa [inR] using h
      show escB n = false
      rw [Bool.eq_false_iff]; intro h2; simp [escB] at h2; omega
    have HH := Lib.hid h
    clear h
    go_enter Tryd.func48, Tryd.ntmps48
    go_wp2_with (go_at_call 17; refine (with_val _ _ _ _ _ HH.out).mono ?_; rintro e w' ⟨rfl, rfl⟩)
    go_ret
    exact ⟨ret_bool H.out.symm, rfl⟩
  · have H := Lib.hid (esc_index n h)
    have HH := Lib.hid h
    clear h
    go_enter Tryd.func48, Tryd.ntmps48
    go_wp2_with (first | (go_at_call 17; refine (with_val _ _ _ _ _ HH.out).mono ?_; rintro e w' ⟨rfl, rfl⟩) | (go_at_call 63; refine (Tryd.strings_IndexByte _ _ _).mono ?_; rintro e w' ⟨rfl, rfl⟩))
    go_ret
    exact ⟨ret_bool H.out, rfl⟩

theorem areArgs1_any (n : Int) (w : World) : Calls Tryd.prog 43 #[.int .i64 n] w fun e w' => e = .returned (.bool (!argOk n)) ∧ w = w' := by
  go_enter Tryd.func43, Tryd.ntmps43
  go_wp2_with (go_at_call 17; refine (with_val _ _ _ _ _ rfl).mono ?_; rintro e w' ⟨rfl, rfl⟩)
  go_ret
  exact ⟨rfl, rfl⟩
theorem any_not_all (zs : List Int) : (!zs.any fun x => !argOk x) = zs.all argOk := by induction zs with | nil => rfl | cons a l ih => simp [← ih]
theorem areArgs_any (ao : Option Addr) (n c : Nat) (zs : List Int) (w : World) (ha : At w ao (i64s zs)) (hl : zs.length = n) (hn : n ≤ maxLen) :
    Calls Tryd.prog 28 #[.slice ao n c] w fun e w' => e = .returned (.bool (argsB zs)) ∧ w = w' := by
  have HC := Lib.hid (containsFunc_ints (fun x => !argOk x) 43 (fun _ _ => by kernel_rfl) areArgs1_any ao n c zs w ha hl hn)
  have H : Hid (argsB zs = (inR n 1 8 && !zs.any fun x => !argOk x)) := by show _ = _; rw [argsB, hl, any_not_all]
  clear hl
  generalize (zs.any fun x => !argOk x) = b at *
  go_enter Tryd.func28, Tryd.ntmps28
  go_wp2_with (first | (go_at_call 17; refine (with_val _ _ _ _ _ rfl).mono ?_; rintro e w' ⟨rfl, rfl⟩) | (go_at_call 20; refine HC.out.mono ?_; rintro e w' ⟨rfl, rfl⟩))
  all_goals go_ret
  all_goals exact ⟨ret_bool (by rw [H.out]; simp_all), rfl⟩

theorem title_no {s : ByteArray} {k : Nat} (h : k < s.size) (hc : chrOk s[k] = false) : titleB s = false := by
  rw [titleB, Bool.and_eq_false_iff]
  right
  rw [Bool.eq_false_iff]
  intro ha
  have := List.all_eq_true.1 ha s[k] (by exact Array.getElem_mem_toList h)
  rw [hc] at this; cases this
theorem title_all {s : ByteArray} (h : ∀ j (hj : j < s.size), chrOk s[j] = true) : titleB s = decide (s.size ≤ 40) := by
  rw [titleB, List.all_eq_true.2, Bool.and_true]
  intro x hx
  obtain ⟨j, hj, rfl⟩ := List.getElem_of_mem hx
  exact h j (by simpa using hj)
theorem isTitle_any (s : ByteArray) (w : World) (hs : s.size ≤ maxLen) :
    Calls Tryd.prog 22 #[.string s] w fun e w' => e = .returned (.bool (titleB s)) ∧ w = w' := by
  unfold maxLen at hs
  go_enter Tryd.func22, Tryd.ntmps22
  go_wp2
  go_loop [6] (fun i => ∃ k : Nat, k ≤ s.size ∧ i = .int .i64 k ∧ Hid (∀ j (hj : j < s.size), j < k → chrOk s[j] = true)) (fun i => s.size - (intOf i).toNat)
  case atStart => exact ⟨0, Nat.zero_le _, rfl, fun j hj h => absurd h (by omega)⟩
  case round =>
    obtain ⟨k, hk, rfl, hall⟩ := hrel
    by_cases hkt : k < s.size
    · cases hc : chrOk s[k]
      · have H := Lib.hid (title_no hkt hc)
        have hc' : (s[k].toNat : Int) < 32 ∨ 126 < (s[k].toNat : Int) := by
          simp [chrOk] at hc; omega
        clear hc
        rcases hc' with h1 | h1
        · go_wp2
          all_goals try (exfalso; omega)
          go_ret
          exact ⟨ret_bool H.out.symm, rfl⟩
        · have h2 : 32 ≤ (s[k].toNat : Int) := by omega
          go_wp2
          all_goals try (exfalso; omega)
          go_ret
          exact ⟨ret_bool H.out.symm, rfl⟩
      · have h1 : 32 ≤ (s[k].toNat : Int) := by simp [chrOk] at hc; omega
        have h2 : (s[k].toNat : Int) ≤ 126 := by simp [chrOk] at hc; omega
        have HA : Hid (∀ j (hj : j < s.size), j < k + 1 → chrOk s[j] = true) := fun j hj h => if e : j = k then (by subst e; exact hc) else hall.out j hj (by omega)
        clear hc
        go_wp2
        all_goals try (exfalso; omega)
        exact ⟨⟨k + 1, by omega, by go_num, HA⟩, by simp [intOf]; omega⟩
    · have H := Lib.hid (title_all (s := s) fun j hj => hall.out j hj (by omega))
      go_wp2
      go_ret
      exact ⟨ret_bool (by rw [H.out, Bool.eq_iff_iff]; simp; omega), rfl⟩
end Go.Proofs.YtfpbboldfilhlaaDoor
