/-
  Contracts of the given program's bigBytes and bigNumber and of the reference's l02Number and l02Of: numbers as bytes, the most significant first. Conditions: bounds on what is handed in.
-/
import Derived.Test.YtfpbboldfilhlaaDoorSlices
import Derived.Laws.BitsAllLaws
import Derived.Laws.BitsLemmas
import Derived.Deep.AppendLies
namespace Go.Proofs.YtfpbboldfilhlaaDoor
open Go.ChangeShapes Go.WideShapes Go.ChangeAt Go.RowKit
set_option linter.unusedVariables false

/-- a number in so many bytes -/
def bigL (n : Nat) : Nat → List UInt8
  | 0 => []
  | c + 1 => bigL (n / 256) c ++ [UInt8.ofNat (n % 256)]
theorem length_bigL : ∀ (c n : Nat), (bigL n c).length = c
  | 0, _ => rfl
  | c + 1, n => by simp [bigL, length_bigL c]
theorem bigL_cons : ∀ (c n : Nat), bigL n (c + 1) = UInt8.ofNat (n / 256 ^ c % 256) :: bigL n c
  | 0, n => by simp [bigL]
  | c + 1, n => by
    rw [bigL, bigL_cons c (n / 256), bigL, Nat.pow_succ, Nat.div_div_eq_div_mul, Nat.mul_comm 256]
    rfl
theorem bigL_take : ∀ (c n j : Nat), j < c → (bigL n c).take (j + 1) = (bigL n c).take j ++ [UInt8.ofNat (n / 256 ^ (c - 1 - j) % 256)]
  | 0, _, _, h => absurd h (by omega)
  | c + 1, n, j, h => by
    rw [bigL_cons]
    cases j with
    | zero => simp
    | succ j => rw [List.take_succ_cons, List.take_succ_cons, bigL_take c n j (by omega), show c + 1 - 1 - (j + 1) = c - 1 - j from by omega]; rfl
theorem ofNat_mod (n : Nat) : ((UInt8.ofNat (n % 256)).toNat : Int) = (n : Int) % 256 := by simp
theorem pow256 (j : Nat) : 2 ^ (8 * j) = 256 ^ j := by rw [Nat.pow_mul]

/-- the number in some bytes -/
def numL (l : List UInt8) : Nat := l.foldl (fun n b => n * 256 + b.toNat) 0
theorem numL_lt : ∀ (k : Nat) (l : List UInt8), l.length ≤ k → numL l < 256 ^ k := by
  have H : ∀ (l : List UInt8) (n k : Nat), n < 256 ^ k → l.foldl (fun n b => n * 256 + b.toNat) n < 256 ^ (k + l.length) := by
    intro l
    induction l with
    | nil => intro n k h; exact h
    | cons b l ih =>
      intro n k h
      have hb := b.toNat_lt
      have := ih (n * 256 + b.toNat) (k + 1) (by rw [Nat.pow_succ]; omega)
      rw [List.foldl_cons, List.length_cons, show k + (l.length + 1) = k + 1 + l.length from by omega]
      exact this
  intro k l h
  have := H l 0 0 (by decide)
  rw [Nat.zero_add] at this
  exact Nat.lt_of_lt_of_le this (Nat.pow_le_pow_right (by decide) h)
theorem numL_snoc (l : List UInt8) (b : UInt8) : numL (l ++ [b]) = numL l * 256 + b.toNat := by simp [numL]

end Go.Proofs.YtfpbboldfilhlaaDoor
