/-
  SHA-256 as a plain function of bytes, and the laws that the two programs' forms of its step are one. No program in sight. No condition.
-/
import Derived.Test.YtfkpdinfoagfhaaDoorBig
namespace Go.Proofs.YtfkpdinfoagfhaaDoor
open Go.ChangeShapes Go.WideShapes Go.ChangeAt Go.RowKit
set_option linter.unusedVariables false

def add32 (a b : Nat) : Nat := (a + b) % 4294967296
def rotr (x n : Nat) : Nat := x * 2 ^ (32 - n) % 4294967296 ||| x / 2 ^ n
def sg0 (x : Nat) : Nat := rotr x 7 ^^^ rotr x 18 ^^^ x / 8
def sg1 (x : Nat) : Nat := rotr x 17 ^^^ rotr x 19 ^^^ x / 1024
def bs1 (e : Nat) : Nat := rotr e 6 ^^^ rotr e 11 ^^^ rotr e 25
def bs0 (a : Nat) : Nat := rotr a 2 ^^^ rotr a 13 ^^^ rotr a 22
def ch (e f g : Nat) : Nat := e &&& f ||| (4294967295 ^^^ e) &&& g
def maj (a b c : Nat) : Nat := a &&& b ||| a &&& c ||| b &&& c
theorem ch_xor {e f g : Nat} (he : e < 2 ^ 32) : (e &&& f) ^^^ ((4294967295 ^^^ e) &&& g) = ch e f g := by
  unfold ch
  apply Nat.eq_of_testBit_eq
  intro i
  have hm : (4294967295 : Nat).testBit i = decide (i < 32) := by
    rw [show (4294967295 : Nat) = 2 ^ 32 - 1 from rfl, Nat.testBit_two_pow_sub_one]
  simp only [Nat.testBit_xor, Nat.testBit_and, Nat.testBit_or, hm]
  by_cases hi : i < 32
  · simp only [hi, decide_true]
    cases e.testBit i <;> cases f.testBit i <;> cases g.testBit i <;> rfl
  · have : e.testBit i = false := Nat.testBit_lt_two_pow (Nat.lt_of_lt_of_le he (Nat.pow_le_pow_right (by decide) (by omega)))
    simp [hi, this]
theorem maj_xor {a b c : Nat} : (a &&& b) ^^^ (a &&& c) ^^^ (b &&& c) = maj a b c := by
  unfold maj
  apply Nat.eq_of_testBit_eq
  intro i
  simp only [Nat.testBit_xor, Nat.testBit_and, Nat.testBit_or]
  cases a.testBit i <;> cases b.testBit i <;> cases c.testBit i <;> rfl
theorem add32_lt (a b : Nat) : add32 a b < 2 ^ 32 := Nat.mod_lt _ (by decide)
theorem rotr_lt {x n : Nat} (h : x < 2 ^ 32) : rotr x n < 2 ^ 32 :=
  Nat.or_lt_two_pow (Nat.mod_lt _ (by decide)) (Nat.lt_of_le_of_lt (Nat.div_le_self _ _) h)
theorem sg0_lt {x : Nat} (h : x < 2 ^ 32) : sg0 x < 2 ^ 32 :=
  Nat.xor_lt_two_pow (Nat.xor_lt_two_pow (rotr_lt h) (rotr_lt h)) (Nat.lt_of_le_of_lt (Nat.div_le_self _ _) h)
theorem sg1_lt {x : Nat} (h : x < 2 ^ 32) : sg1 x < 2 ^ 32 :=
  Nat.xor_lt_two_pow (Nat.xor_lt_two_pow (rotr_lt h) (rotr_lt h)) (Nat.lt_of_le_of_lt (Nat.div_le_self _ _) h)
theorem bs0_lt {x : Nat} (h : x < 2 ^ 32) : bs0 x < 2 ^ 32 :=
  Nat.xor_lt_two_pow (Nat.xor_lt_two_pow (rotr_lt h) (rotr_lt h)) (rotr_lt h)
theorem bs1_lt {x : Nat} (h : x < 2 ^ 32) : bs1 x < 2 ^ 32 :=
  Nat.xor_lt_two_pow (Nat.xor_lt_two_pow (rotr_lt h) (rotr_lt h)) (rotr_lt h)
theorem ch_lt {e f g : Nat} (he : e < 2 ^ 32) (hg : g < 2 ^ 32) : ch e f g < 2 ^ 32 :=
  Nat.or_lt_two_pow (Nat.lt_of_le_of_lt Nat.and_le_left he) (Nat.lt_of_le_of_lt Nat.and_le_right hg)
theorem maj_lt {a b c : Nat} (ha : a < 2 ^ 32) (hb : b < 2 ^ 32) : maj a b c < 2 ^ 32 :=
  Nat.or_lt_two_pow (Nat.or_lt_two_pow (Nat.lt_of_le_of_lt Nat.and_le_left ha) (Nat.lt_of_le_of_lt Nat.and_le_left ha)) (Nat.lt_of_le_of_lt Nat.and_le_left hb)

/-- the word of a block at a place -/
def word (b : List UInt8) (i : Nat) : Nat := (((b.getD (4 * i) 0).toNat * 16777216 ||| (b.getD (4 * i + 1) 0).toNat * 65536) ||| (b.getD (4 * i + 2) 0).toNat * 256) ||| (b.getD (4 * i + 3) 0).toNat
theorem word_lt (b : List UInt8) (i : Nat) : word b i < 2 ^ 32 := by
  have h : ∀ x : UInt8, x.toNat < 256 := fun x => x.toNat_lt
  unfold word
  refine Nat.or_lt_two_pow (Nat.or_lt_two_pow (Nat.or_lt_two_pow ?_ ?_) ?_) ?_
  · have := h (b.getD (4 * i) 0); omega
  · have := h (b.getD (4 * i + 1) 0); omega
  · have := h (b.getD (4 * i + 2) 0); omega
  · have := h (b.getD (4 * i + 3) 0); omega

/-- the next word of the schedule, from those before -/
def nextW (l : List Nat) (i : Nat) : Nat := add32 (add32 (add32 (l.getD (i - 16) 0) (sg0 (l.getD (i - 15) 0))) (l.getD (i - 7) 0)) (sg1 (l.getD (i - 2) 0))
/-- the first words of the schedule -/
def sched (b : List UInt8) : Nat → List Nat
  | 0 => []
  | i + 1 => sched b i ++ [if i < 16 then word b i else nextW (sched b i) i]
theorem length_sched (b : List UInt8) : ∀ i, (sched b i).length = i
  | 0 => rfl
  | i + 1 => by simp [sched, length_sched b i]
theorem sched_lt (b : List UInt8) : ∀ i, ∀ x ∈ sched b i, x < 2 ^ 32
  | 0, x, h => by simp [sched] at h
  | i + 1, x, h => by
    rcases List.mem_append.1 h with h | h
    · exact sched_lt b i x h
    · rw [List.mem_singleton.1 h]; split
      · exact word_lt _ _
      · exact add32_lt _ _
theorem getD_lt {l : List Nat} (h : ∀ x ∈ l, x < 2 ^ 32) (i : Nat) : l.getD i 0 < 2 ^ 32 := by
  rw [List.getD_eq_getElem?_getD]
  cases hi : l[i]? with
  | none => decide
  | some x => exact h x (List.mem_of_getElem? hi)

/-- eight words -/
structure Wds where
  (a b c d e f g h : Nat)
def Wds.list (s : Wds) : List Nat := [s.a, s.b, s.c, s.d, s.e, s.f, s.g, s.h]
def Wds.ok (s : Wds) : Prop := s.a < 2 ^ 32 ∧ s.b < 2 ^ 32 ∧ s.c < 2 ^ 32 ∧ s.d < 2 ^ 32 ∧ s.e < 2 ^ 32 ∧ s.f < 2 ^ 32 ∧ s.g < 2 ^ 32 ∧ s.h < 2 ^ 32
def pOf (s : Wds) (k x : Nat) : Nat := add32 (add32 (add32 (add32 s.h (bs1 s.e)) (ch s.e s.f s.g)) k) x
def qOf (s : Wds) : Nat := add32 (bs0 s.a) (maj s.a s.b s.c)
def Wds.step (s : Wds) (k x : Nat) : Wds := ⟨add32 (pOf s k x) (qOf s), s.a, s.b, s.c, add32 s.d (pOf s k x), s.e, s.f, s.g⟩
theorem Wds.step_ok {s : Wds} (h : s.ok) (k x : Nat) : (s.step k x).ok :=
  ⟨add32_lt _ _, h.1, h.2.1, h.2.2.1, add32_lt _ _, h.2.2.2.2.1, h.2.2.2.2.2.1, h.2.2.2.2.2.2.1⟩
def ks : List Nat := [0x428a2f98, 0x71374491, 0xb5c0fbcf, 0xe9b5dba5, 0x3956c25b, 0x59f111f1, 0x923f82a4, 0xab1c5ed5,
  0xd807aa98, 0x12835b01, 0x243185be, 0x550c7dc3, 0x72be5d74, 0x80deb1fe, 0x9bdc06a7, 0xc19bf174,
  0xe49b69c1, 0xefbe4786, 0x0fc19dc6, 0x240ca1cc, 0x2de92c6f, 0x4a7484aa, 0x5cb0a9dc, 0x76f988da,
  0x983e5152, 0xa831c66d, 0xb00327c8, 0xbf597fc7, 0xc6e00bf3, 0xd5a79147, 0x06ca6351, 0x14292967,
  0x27b70a85, 0x2e1b2138, 0x4d2c6dfc, 0x53380d13, 0x650a7354, 0x766a0abb, 0x81c2c92e, 0x92722c85,
  0xa2bfe8a1, 0xa81a664b, 0xc24b8b70, 0xc76c51a3, 0xd192e819, 0xd6990624, 0xf40e3585, 0x106aa070,
  0x19a4c116, 0x1e376c08, 0x2748774c, 0x34b0bcb5, 0x391c0cb3, 0x4ed8aa4a, 0x5b9cca4f, 0x682e6ff3,
  0x748f82ee, 0x78a5636f, 0x84c87814, 0x8cc70208, 0x90befffa, 0xa4506ceb, 0xbef9a3f7, 0xc67178f2]
def rounds (s : Wds) (l : List Nat) : Nat → Wds
  | 0 => s
  | i + 1 => (rounds s l i).step (ks.getD i 0) (l.getD i 0)
theorem rounds_ok {s : Wds} (h : s.ok) (l : List Nat) : ∀ i, (rounds s l i).ok
  | 0 => h
  | i + 1 => Wds.step_ok (rounds_ok h l i) _ _
def Wds.add (s t : Wds) : Wds := ⟨add32 s.a t.a, add32 s.b t.b, add32 s.c t.c, add32 s.d t.d, add32 s.e t.e, add32 s.f t.f, add32 s.g t.g, add32 s.h t.h⟩
theorem Wds.add_ok (s t : Wds) : (s.add t).ok := ⟨add32_lt _ _, add32_lt _ _, add32_lt _ _, add32_lt _ _, add32_lt _ _, add32_lt _ _, add32_lt _ _, add32_lt _ _⟩
/-- a block taken into the state -/
def blockW (s : Wds) (b : List UInt8) : Wds := s.add (rounds s (sched b 64) 64)
theorem blockW_ok (s : Wds) (b : List UInt8) : (blockW s b).ok := Wds.add_ok _ _
def startW : Wds := ⟨0x6a09e667, 0xbb67ae85, 0x3c6ef372, 0xa54ff53a, 0x510e527f, 0x9b05688c, 0x1f83d9ab, 0x5be0cd19⟩
theorem startW_ok : startW.ok := by unfold Wds.ok startW; decide
/-- the state behind some blocks -/
def blocksW (l : List UInt8) : Nat → Wds
  | 0 => startW
  | i + 1 => blockW (blocksW l i) ((l.drop (64 * i)).take 64)
theorem blocksW_ok (l : List UInt8) : ∀ i, (blocksW l i).ok
  | 0 => startW_ok
  | i + 1 => blockW_ok _ _
def zerosOf (n : Nat) : Nat := (119 - n % 64) % 64
def padded (l : List UInt8) : List UInt8 := l ++ [128] ++ List.replicate (zerosOf l.length) 0 ++ bigL (8 * l.length) 8
theorem padded_length (l : List UInt8) : (padded l).length % 64 = 0 ∧ (padded l).length = l.length + 9 + zerosOf l.length := by
  simp [padded, length_bigL, zerosOf]
  omega
def sha (l : List UInt8) : List UInt8 := (blocksW (padded l) ((padded l).length / 64)).list.flatMap (fun x => bigL x 4)
theorem length_sha (l : List UInt8) : (sha l).length = 32 := by simp [sha, Wds.list, length_bigL]
end Go.Proofs.YtfkpdinfoagfhaaDoor
