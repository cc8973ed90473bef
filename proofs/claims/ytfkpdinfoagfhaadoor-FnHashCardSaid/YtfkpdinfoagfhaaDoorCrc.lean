/-
  Contracts of the given program's check32 and of its reference: both are CRC-32, bit by bit. No condition beyond a bound on the length.
-/
import Derived.Test.YtfkpdinfoagfhaaDoorSlices
import Derived.Test.YtfkpdinfoagfhaaDoorLong
import Derived.Laws.BitsAllLaws
namespace Go.Proofs.YtfkpdinfoagfhaaDoor
open Go.ChangeShapes Go.WideShapes Go.ChangeAt Go.RowKit
set_option linter.unusedVariables false

theorem bits_xor_nat (k : IntKind) (j : Nat) (hj : j ≤ k.bits) (hk : ∀ n : Int, 0 ≤ n → n < 2 ^ j → k.wrap n = n) (a b : Nat) (ha : a < 2 ^ j) (hb : b < 2 ^ j) :
    bits .xor k a b = ((a ^^^ b : Nat) : Int) := by
  have hp : 2 ^ j ≤ 2 ^ k.bits := Nat.pow_le_pow_right (by decide) hj
  have ha' : a % 2 ^ k.bits = a := Nat.mod_eq_of_lt (Nat.lt_of_lt_of_le ha hp)
  have hb' : b % 2 ^ k.bits = b := Nat.mod_eq_of_lt (Nat.lt_of_lt_of_le hb hp)
  have cast : ∀ n : Nat, n < 2 ^ j → ((n : Nat) : Int) < 2 ^ j := fun n h => by exact_mod_cast h
  simp only [bits, BitVec.ofInt_natCast, BitVec.toNat_xor, BitVec.toNat_ofNat, ha', hb']
  exact hk _ (Int.natCast_nonneg _) (cast _ (Nat.xor_lt_two_pow ha hb))

def crcPoly : Nat := 3988292384
def crcAll : Nat := 4294967295
def crcBit (n : Nat) : Nat := if n % 2 = 1 then n / 2 ^^^ crcPoly else n / 2
def crcB : Nat → Nat → Nat
  | 0, n => n
  | k + 1, n => crcBit (crcB k n)
def crcL (l : List UInt8) : Nat := l.foldl (fun r b => crcB 8 (r ^^^ b.toNat)) crcAll
def crc (l : List UInt8) : Nat := crcL l ^^^ crcAll
theorem crcBit_lt {n : Nat} (h : n < 2 ^ 32) : crcBit n < 2 ^ 32 := by
  unfold crcBit
  split
  · exact Nat.xor_lt_two_pow (by omega) (by decide)
  · omega
theorem crcB_lt {n : Nat} (h : n < 2 ^ 32) : ∀ k, crcB k n < 2 ^ 32
  | 0 => h
  | k + 1 => crcBit_lt (crcB_lt h k)
theorem crcL_snoc (l : List UInt8) (b : UInt8) : crcL (l ++ [b]) = crcB 8 (crcL l ^^^ b.toNat) := by simp [crcL]
theorem u8_lt32 (b : UInt8) : b.toNat < 2 ^ 32 := by have := b.toNat_lt; omega
theorem crcL_lt (l : List UInt8) : crcL l < 2 ^ 32 := by
  have : ∀ (l : List UInt8) (n : Nat), n < 2 ^ 32 → l.foldl (fun r b => crcB 8 (r ^^^ b.toNat)) n < 2 ^ 32 := by
    intro l
    induction l with
    | nil => intro n h; exact h
    | cons b l ih => intro n h; exact ih _ (crcB_lt (Nat.xor_lt_two_pow h (u8_lt32 b)) 8)
  exact this l _ (by decide)

theorem u32_xor_n (a b : Nat) (ha : a < 2 ^ 32) (hb : b < 2 ^ 32) : bits .xor .u32 (a : Int) (b : Int) = ((a ^^^ b : Nat) : Int) :=
  bits_xor_nat .u32 32 (by decide) (fun n h0 h1 => by rw [IntKind.wrap_u32]; omega) a b ha hb
theorem i64_xor_n (a b : Nat) (ha : a < 2 ^ 32) (hb : b < 2 ^ 32) : bits .xor .i64 (a : Int) (b : Int) = ((a ^^^ b : Nat) : Int) :=
  bits_xor_nat .i64 32 (by decide) (fun n h0 h1 => by rw [IntKind.wrap_i64]; omega) a b ha hb

set_option maxHeartbeats 1000000 in
theorem check32_any (s : ByteArray) (w : World) (hs : s.size ≤ 1048576) :
    Calls Tryd.prog 28 #[.string s] w fun e w' => e = .returned (.int .i64 (crc s.data.toList : Int)) ∧ w = w' := by
  go_enter Tryd.func28, Tryd.ntmps28
  go_wp2
  go_loop [3, 8] (fun r i => ∃ k : Nat, k ≤ s.size ∧ i = .int .i64 k ∧ ∃ n : Nat, n < 4294967296 ∧ r = .int .u32 n ∧ Hid (n = crcL (s.data.toList.take k))) (fun _ i => s.size - (intOf i).toNat)
  case atStart => exact ⟨0, Nat.zero_le _, rfl, 4294967295, by omega, rfl, rfl⟩
  case round =>
    obtain ⟨k, hk, rfl, n, hn, rfl, hc⟩ := hrel
    by_cases hkt : k < s.size
    · obtain ⟨m, hm, hm1, hx⟩ : ∃ m : Nat, m < 4294967296 ∧ Hid (m = n ^^^ s[k].toNat) ∧ bits BinOp.xor IntKind.u32 (n : Int) (s[k].toNat : Int) = (m : Int) :=
        ⟨n ^^^ s[k].toNat, Nat.xor_lt_two_pow (n := 32) hn (u8_lt32 _), rfl, u32_xor_n _ _ hn (u8_lt32 _)⟩
      have b1 : (s[k].toNat : Int) ≤ 255 := by have := s[k].toNat_lt; omega
      go_wp2
      go_loop [3, 17] (fun r j => ∃ i : Nat, i ≤ 8 ∧ j = .int .i64 i ∧ ∃ q : Nat, q < 4294967296 ∧ r = .int .u32 q ∧ Hid (q = crcB i m)) (fun _ j => 8 - (intOf j).toNat)
      case atStart => exact ⟨0, Nat.zero_le _, rfl, m, hm, rfl, rfl⟩
      case round =>
        obtain ⟨i, hi, rfl, q, hq, rfl, hqc⟩ := hrel
        by_cases hit : i < 8
        · have hand : bits BinOp.and IntKind.u32 (q : Int) 1 = ((q % 2 : Nat) : Int) := by
            rw [show (1 : Int) = ((1 : Nat) : Int) from rfl, u32_and_nat _ _ hq (by decide), Nat.and_one_is_mod]
          obtain ⟨d, hd, hd1⟩ : ∃ d : Nat, d = q % 2 ∧ d ≤ 1 := ⟨_, rfl, by omega⟩
          rw [← hd] at hand
          have hstep : Hid (crcBit q = crcB (i + 1) m) := by show crcBit q = crcBit (crcB i m); rw [hqc.out]
          rcases (show d = 0 ∨ d = 1 by omega) with h0 | h0
          · have hb : Hid (crcBit q = q / 2) := by show crcBit q = q / 2; unfold crcBit; rw [if_neg (by omega)]
            subst h0
            clear hd
            go_wp2
            go_round
            case rel => exact ⟨i + 1, by omega, by go_num, q / 2, by omega, by go_num, by show _ = _; rw [← hstep.out, hb.out]⟩
            case measure => simp [intOf]; omega
          · obtain ⟨r, hr, hr1, hrx⟩ : ∃ r : Nat, r < 4294967296 ∧ Hid (r = crcBit q) ∧ bits BinOp.xor IntKind.u32 ((q : Int) / 2) 3988292384 = (r : Int) := by
              refine ⟨crcBit q, crcBit_lt hq, rfl, ?_⟩
              have e : ((q : Int) / 2) = ((q / 2 : Nat) : Int) := by omega
              rw [e, show (3988292384 : Int) = ((crcPoly : Nat) : Int) from rfl, u32_xor_n _ _ (by omega) (by decide)]
              unfold crcBit
              rw [if_pos (by omega)]
            subst h0
            clear hd
            go_wp2
            go_round
            case rel => exact ⟨i + 1, by omega, by go_num, r, hr, rfl, by show _ = _; rw [hr1.out, hstep.out]⟩
            case measure => simp [intOf]; omega
        · have hi8 : Hid (i = 8) := by show i = 8; omega
          have hfin : Hid (q = crcL (s.data.toList.take (k + 1))) := by
            show q = _
            rw [List.take_succ_eq_append_getElem (by simpa using hkt), crcL_snoc, hqc.out, hi8.out, hm1.out, hc.out]
            rfl
          go_wp2
          go_round
          case rel => exact ⟨k + 1, by omega, by go_num, q, hq, rfl, hfin⟩
          case measure => simp [intOf]; omega
    · have hfin : Hid (n = crcL s.data.toList) := by
        show n = _
        rw [hc.out, List.take_of_length_le (by simp; omega)]
      obtain ⟨r, hr, hr1, hrx⟩ : ∃ r : Nat, r < 4294967296 ∧ Hid (r = crc s.data.toList) ∧ bits BinOp.xor IntKind.u32 IntKind.u32.max (n : Int) = (r : Int) := by
        refine ⟨crc s.data.toList, Nat.xor_lt_two_pow (n := 32) (crcL_lt _) (by decide), rfl, ?_⟩
        rw [show IntKind.u32.max = ((4294967295 : Nat) : Int) from rfl, u32_xor_n _ _ (by decide) hn, hfin.out, Nat.xor_comm]
        rfl
      go_wp2
      go_ret
      exact ⟨ret_int (by rw [← hr1.out]; exact IntWalk.wrap64_in _ ⟨by omega, by omega⟩), rfl⟩

set_option maxHeartbeats 1000000 in
theorem l01Check_any (ao : Option Addr) (len cap : Nat) (l : List UInt8) (w : World) (ha : At w ao (u8s l)) (hl : l.length = len) (hs : len ≤ 1048576) :
    Calls Tryd.prog 29 #[.slice ao len cap] w fun e w' => e = .returned (.int .i64 (crc l : Int)) ∧ w = w' := by
  have HL := Lib.hid hl
  clear hl
  go_enter Tryd.func29, Tryd.ntmps29
  go_wp2
  go_loop [3, 4] (fun r i => ∃ k : Nat, k ≤ len ∧ i = .int .i64 k ∧ ∃ n : Nat, n < 4294967296 ∧ r = .int .i64 n ∧ Hid (n = crcL (l.take k))) (fun _ i => len - (intOf i).toNat)
  case atStart => exact ⟨0, Nat.zero_le _, rfl, 4294967295, by omega, rfl, rfl⟩
  case round =>
    obtain ⟨k, hk, rfl, n, hn, rfl, hc⟩ := hrel
    by_cases hkt : k < len
    · have hkl : k < l.length := by have := HL.out; omega
      obtain ⟨b, off, rfl, hcell⟩ := ha.get (u8s_ne hkl)
      have c1 : w.cell? ⟨b, off + k, none⟩ = some (.int .u8 (l[k].toNat : Int)) := by rw [hcell k (by simpa [u8s] using hkl), u8s_get _ _ _ hkl]
      clear hcell ha
      obtain ⟨m, hm, hm1, hx⟩ : ∃ m : Nat, m < 4294967296 ∧ Hid (m = n ^^^ l[k].toNat) ∧ bits BinOp.xor IntKind.i64 (n : Int) (l[k].toNat : Int) = (m : Int) :=
        ⟨n ^^^ l[k].toNat, Nat.xor_lt_two_pow (n := 32) hn (u8_lt32 _), rfl, i64_xor_n _ _ hn (u8_lt32 _)⟩
      have b1 : (l[k].toNat : Int) ≤ 255 := by have := l[k].toNat_lt; omega
      go_wp2
      go_loop [3, 5] (fun r j => ∃ i : Nat, i ≤ 8 ∧ j = .int .i64 i ∧ ∃ q : Nat, q < 4294967296 ∧ r = .int .i64 q ∧ Hid (q = crcB i m)) (fun _ j => 8 - (intOf j).toNat)
      case atStart => exact ⟨0, Nat.zero_le _, rfl, m, hm, rfl, rfl⟩
      case round =>
        obtain ⟨i, hi, rfl, q, hq, rfl, hqc⟩ := hrel
        by_cases hit : i < 8
        · have hstep : Hid (crcBit q = crcB (i + 1) m) := by show crcBit q = crcBit (crcB i m); rw [hqc.out]
          rcases (show (q : Int) % 2 = 0 ∨ (q : Int) % 2 = 1 by omega) with h0 | h0
          · have hb : Hid (crcBit q = q / 2) := by show crcBit q = q / 2; unfold crcBit; rw [if_neg (by omega)]
            have h1 : ((q : Int) % 2 == 1) = false := by rw [h0]; rfl
            clear h0
            go_wp2
            go_round
            case rel => exact ⟨i + 1, by omega, by go_num, q / 2, by omega, by go_num, by show _ = _; rw [← hstep.out, hb.out]⟩
            case measure => simp [intOf]; omega
          · obtain ⟨r, hr, hr1, hrx⟩ : ∃ r : Nat, r < 4294967296 ∧ Hid (r = crcBit q) ∧ bits BinOp.xor IntKind.i64 ((q : Int) / 2) 3988292384 = (r : Int) := by
              refine ⟨crcBit q, crcBit_lt hq, rfl, ?_⟩
              have e : ((q : Int) / 2) = ((q / 2 : Nat) : Int) := by omega
              rw [e, show (3988292384 : Int) = ((crcPoly : Nat) : Int) from rfl, i64_xor_n _ _ (by omega) (by decide)]
              unfold crcBit
              rw [if_pos (by omega)]
            have h1 : ((q : Int) % 2 == 1) = true := by rw [h0]; rfl
            clear h0
            go_wp2
            go_round
            case rel => exact ⟨i + 1, by omega, by go_num, r, hr, rfl, by show _ = _; rw [hr1.out, hstep.out]⟩
            case measure => simp [intOf]; omega
        · have hi8 : Hid (i = 8) := by show i = 8; omega
          have hfin : Hid (q = crcL (l.take (k + 1))) := by
            show q = _
            rw [List.take_succ_eq_append_getElem hkl, crcL_snoc, hqc.out, hi8.out, hm1.out, hc.out]
          go_wp2
          go_round
          case rel => exact ⟨k + 1, by omega, by go_num, q, hq, rfl, hfin⟩
          case measure => simp [intOf]; omega
    · have hfin : Hid (n = crcL l) := by
        show n = _
        rw [hc.out, List.take_of_length_le (by have := HL.out; omega)]
      obtain ⟨r, hr, hr1, hrx⟩ : ∃ r : Nat, r < 4294967296 ∧ Hid (r = crc l) ∧ bits BinOp.xor IntKind.i64 (n : Int) 4294967295 = (r : Int) := by
        refine ⟨crc l, Nat.xor_lt_two_pow (n := 32) (crcL_lt _) (by decide), rfl, ?_⟩
        rw [show (4294967295 : Int) = ((4294967295 : Nat) : Int) from rfl, i64_xor_n _ _ hn (by decide), hfin.out]
        rfl
      go_wp2
      go_ret
      exact ⟨ret_int (by rw [← hr1.out]), rfl⟩

def check32R (l : List UInt8) : Int := if 65536 < l.length then 0 else (crc l : Int)

theorem specCheck32_any (ao : Option Addr) (len cap : Nat) (l : List UInt8) (w : World) (ha : At w ao (u8s l)) (hl : l.length = len) (hs : len ≤ 1048576) :
    Calls Tryd.prog 16 #[.slice ao len cap] w fun e w' => e = .returned (.int .i64 (check32R l)) ∧ w = w' := by
  have HC := Lib.hid (l01Check_any ao len cap l w ha hl hs)
  have H : Hid (check32R l = if 65536 < len then 0 else (crc l : Int)) := by show check32R l = _; rw [check32R, hl]
  clear hl
  go_enter Tryd.func16, Tryd.ntmps16
  go_wp2_with (go_at_call 29; refine HC.out.mono ?_; rintro e w' ⟨rfl, rfl⟩)
  · go_ret
    exact ⟨ret_int (by rw [H.out, if_pos (by omega)]), rfl⟩
  · go_ret
    exact ⟨ret_int (by rw [H.out, if_neg (by omega)]), rfl⟩

theorem implCheck32_any (ao : Option Addr) (len cap : Nat) (l : List UInt8) (w : World) (ha : At w ao (u8s l)) (hl : l.length = len) (hs : len ≤ 1048576) :
    Calls Tryd.prog 15 #[.slice ao len cap] w fun e w' => e = .returned (.int .i64 (check32R l)) ∧ Below w.heap.size w w' := by
  have hbw : Below w.heap.size w (w.alloc (.cells #[.int .i64 len] 3)) := (Below.refl _ _).alloc (Nat.le_refl _) _
  have HI := Lib.hid (isLong_any (some ⟨w.heap.size, 0, none⟩) 1 1 [(len : Int)] (w.alloc (.cells #[.int .i64 len] 3)) (at_new _ _ _ _) rfl (by decide))
  have H : Hid (check32R l = if 65536 < len then 0 else (crc l : Int)) := by show check32R l = _; rw [check32R, hl]
  have hcv := conv_at (P := Tryd.prog) 22 9 5 len cap Tryd.underlying22 Tryd.underlying5 Tryd.underlying9 (ha.below hbw (Nat.le_refl _)) hl
  have HC := Lib.hid (check32_any ⟨l.toArray⟩ (w.alloc (.cells #[.int .i64 len] 3)) (by show l.toArray.size ≤ _; simp; omega))
  clear hl
  cases hd : decide (65536 < (len : Int))
  · have h2 : ([(len : Int)].any fun x => decide (65536 < x)) = false := by simpa using hd
    have hle : ¬ 65536 < len := by simp at hd; omega
    go_enter Tryd.func15, Tryd.ntmps15
    go_wp2_with (first | (go_at_call 22; refine HI.out.mono ?_; rw [h2]; rintro e w' ⟨rfl, rfl⟩) | (go_at_call 28; refine HC.out.mono ?_; rintro e w' ⟨rfl, rfl⟩))
    go_ret
    exact ⟨ret_int (by rw [H.out, if_neg hle]), hbw⟩
  · have h2 : ([(len : Int)].any fun x => decide (65536 < x)) = true := by simpa using hd
    have hle : 65536 < len := by simp at hd; omega
    go_enter Tryd.func15, Tryd.ntmps15
    go_wp2_with (go_at_call 22; refine HI.out.mono ?_; rw [h2]; rintro e w' ⟨rfl, rfl⟩)
    go_ret
    exact ⟨ret_int (by rw [H.out, if_pos hle]), hbw⟩
end Go.Proofs.YtfkpdinfoagfhaaDoor
