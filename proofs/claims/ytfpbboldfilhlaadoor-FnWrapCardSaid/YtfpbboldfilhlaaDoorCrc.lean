/-
  Contracts of the given program's check32 and of its reference: both are CRC-32, bit by bit. No condition beyond a bound on the length.
-/
import Derived.Test.YtfpbboldfilhlaaDoorSlices
import Derived.Test.YtfpbboldfilhlaaDoorLong
import Derived.Laws.BitsAllLaws
namespace Go.Proofs.YtfpbboldfilhlaaDoor
open Go.ChangeShapes Go.WideShapes Go.ChangeAt Go.RowKit
set_option linter.unusedVariables false

theorem bits_xor_nat (k : IntKind) (j : Nat) (hj : j ≤ k.bits) (hk : ∀ n : Int, 0 ≤ n → n < 2 ^ j → k.wrap n = n) (a b : Nat) (ha : a < 2 ^ j) (hb : b < 2 ^ j) :
    bits .xor k a b = ((a ^^^ b : Nat) : Int) := by
  have hp : 2 ^ j ≤ 2 ^ k.bits := Nat.pow_le_pow_right (by decide) hj
  have ha' : a % 2 ^ k.bits = a := Nat.mod_eq_of_lt (Nat.lt_of_lt_of_le ha hp)
  have hb' : b % 2 ^ k.bits = b := Nat.mod_eq_of_lt (Nat.lt_of_lt_of_le hb hp)
  have cast : ∀ n : Nat, n < 2 ^ j → ((n : Nat) : Int) < 2 ^ j := fun n h => by exact_mod_cast h
  simp only [bits, BitVec.ofInt_natCast, BitVec.toNat_xor, BitVec.toNat_ofNat, ha', hb']
  exact hk _ (Int.natCast_nonneg _) (cast _ (Nat.xor_lt_two_pow ha hb))

def crcPoly : Nat := 3988292384
def crcAll : Nat := 4294967295
def crcBit (n : Nat) : Nat := if n % 2 = 1 then n / 2 ^^^ crcPoly else n / 2
def crcB : Nat → Nat → Nat
  | 0, n => n
  | k + 1, n => crcBit (crcB k n)
def crcL (l : List UInt8) : Nat := l.foldl (fun r b => crcB 8 (r ^^^ b.toNat)) crcAll
def crc (l : List UInt8) : Nat := crcL l ^^^ crcAll
theorem crcBit_lt {n : Nat} (h : n < 2 ^ 32) : crcBit n < 2 ^ 32 := by
  unfold crcBit
  split
  · exact Nat.xor_lt_two_pow (by omega) (by decide)
  · omega
theorem crcB_lt {n : Nat} (h : n < 2 ^ 32) : ∀ k, crcB k n < 2 ^ 32
  | 0 => h
  | k + 1 => crcBit_lt (crcB_lt h k)
theorem crcL_snoc (l : List UInt8) (b : UInt8) : crcL (l ++ [b]) = crcB 8 (crcL l ^^^ b.toNat) := by simp [crcL]
theorem u8_lt32 (b : UInt8) : b.toNat < 2 ^ 32 := by have := b.toNat_lt; omega
theorem crcL_lt (l : List UInt8) : crcL l < 2 ^ 32 := by
  have : ∀ (l : List UInt8) (n : Nat), n < 2 ^ 32 → l.foldl (fun r b => crcB 8 (r ^^^ b.toNat)) n < 2 ^ 32 := by
    intro l
    induction l with
    | nil => intro n h; exact h
    | cons b l ih => intro n h; exact ih _ (crcB_lt (Nat.xor_lt_two_pow h (u8_lt32 b)) 8)
  exact this l _ (by decide)

theorem u32_xor_n (a b : Nat) (ha : a < 2 ^ 32) (hb : b < 2 ^ 32) : bits .xor .u32 (a : Int) (b : Int) = ((a ^^^ b : Nat) : Int) :=
  bits_xor_nat .u32 32 (by decide) (fun n h0 h1 => by rw [IntKind.wrap_u32]; omega) a b ha hb
theorem i64_xor_n (a b : Nat) (ha : a < 2 ^ 32) (hb : b < 2 ^ 32) : bits .xor .i64 (a : Int) (b : Int) = ((a ^^^ b : Nat) : Int) :=
  bits_xor_nat .i64 32 (by decide) (fun n h0 h1 => by rw [IntKind.wrap_i64]; omega) a b ha hb

def check32R (l : List UInt8) : Int := if 65536 < l.length then 0 else (crc l : Int)

end Go.Proofs.YtfpbboldfilhlaaDoor
