/-
  Contracts of HashBits of the given program and of its reference. No condition.
-/
import Derived.Test.YtfkpdinfoagfhaaDoorHashText
import Derived.Test.YtfkpdinfoagfhaaDoorBuilder
import Derived.Test.YtfkpdinfoagfhaaDoorShelf
import Derived.Deep.AppendLies
import Derived.Laws.BitsAllLaws
namespace Go.Proofs.YtfkpdinfoagfhaaDoor
open Go.ChangeShapes Go.WideShapes Go.ChangeAt Go.RowKit
set_option linter.unusedVariables false

def bitN (s : ByteArray) (i : Nat) : Nat := 48 + (if h : i / 8 < s.size then s[i / 8].toNat / 2 ^ (7 - i % 8) % 2 else 0)
def bitsTo (s : ByteArray) (k : Nat) : List UInt8 := (List.range k).map fun i => UInt8.ofNat (bitN s i)
theorem length_bitsTo (s : ByteArray) (k : Nat) : (bitsTo s k).length = k := by simp [bitsTo]
theorem bitsTo_succ (s : ByteArray) (k : Nat) : bitsTo s (k + 1) = bitsTo s k ++ [UInt8.ofNat (bitN s k)] := by simp [bitsTo, List.range_succ]
theorem bitN_lt (s : ByteArray) (i : Nat) : bitN s i < 50 := by unfold bitN; split <;> omega

theorem bit_q (c : Nat) (hc : c < 256) (j : Nat) : bits BinOp.and IntKind.u8 ((c : Int) / 2 ^ j) 1 = ((c / 2 ^ j % 2 : Nat) : Int) := by
  have e : ((c : Int) / 2 ^ j) = ((c / 2 ^ j : Nat) : Int) := by simp
  have hle : c / 2 ^ j ≤ c := Nat.div_le_self _ _
  rw [e, show (1 : Int) = ((1 : Nat) : Int) from rfl, u8_and_nat _ _ (by omega) (by omega), Nat.and_one_is_mod]
theorem ofNat_toNat_lt (n : Nat) (h : n < 256) : ((UInt8.ofNat n).toNat : Int) = (n : Int) := by
  simp; omega

def hashBitsR (s : ByteArray) : ByteArray × Int :=
  if 65536 < s.size then (⟨#[]⟩, 2) else if s.size = 32 then (⟨(bitsTo s 256).toArray⟩, 0) else (⟨#[]⟩, 1)

set_option maxHeartbeats 400000 in
theorem implHashBits_32 (s : ByteArray) (w : World) (h32 : Hid (s.size = 32)) (H : Hid (hashBitsR s = (⟨(bitsTo s 256).toArray⟩, 0))) (h1 : ((s.size : Int) != 32) = false) (h3 : s.size ≤ 65536)
    (h2 : ([(s.size : Int)].any fun x => decide (65536 < x)) = false)
    (HI : Hid (Calls Tryd.prog 22 #[.slice (some ⟨w.heap.size, 0, none⟩) 1 1] (w.alloc (.cells #[.int .i64 s.size] 3)) fun e w' => e = .returned (.bool ([(s.size : Int)].any fun x => decide (65536 < x))) ∧ (w.alloc (.cells #[.int .i64 s.size] 3)) = w')) :
    Calls Tryd.prog 14 #[.string s] w fun e w' => e = .returned (.tuple #[.string (hashBitsR s).1, .int .i64 (hashBitsR s).2]) ∧ Below w.heap.size w w' := by
  go_enter Tryd.func14, Tryd.ntmps14
  go_wp2_with (go_at_call 22; refine HI.out.mono ?_; rw [h2]; rintro e w' ⟨rfl, rfl⟩)
  go_loopw [18] (fun i wr => ∃ k : Nat, k ≤ 8 * s.size ∧ i = .int .i64 k ∧ Lib.IsBuilder 43 5 (w.heap.size + 1) (w.heap.size + 1) (u8s (bitsTo s k)) wr ∧ Below w.heap.size w wr ∧ w.heap.size + 1 < wr.heap.size)
    (fun i _ => 8 * s.size - (intOf i).toNat)
  case atStart =>
    refine ⟨0, Nat.zero_le _, rfl, .inl ⟨Nat.le_refl _, _, ?_, World.ownsRow_nil _ _ _ _, by simp [Value.ownBlock]⟩, ((Below.refl _ _).alloc (Nat.le_refl _) _).alloc (by simp) _, by simp⟩
    have := heap_alloc_new (w.alloc (.cells #[.int .i64 s.size] 3)) (.cells #[.pointer none, .slice none 0 0] 43)
    simpa using this
  case round =>
    obtain ⟨k, hk, rfl, hB, hb, hz⟩ := hrel
    by_cases hkt : k < 8 * s.size
    · have hk8 : k / 8 < s.size := by omega
      have hm7 : k % 8 ≤ 7 := by omega
      obtain ⟨q, hq, hq1, hand⟩ : ∃ q : Nat, Hid (bitN s k = 48 + q) ∧ q ≤ 1 ∧ bits BinOp.and IntKind.u8 ((s[k / 8].toNat : Int) / 2 ^ (7 - k % 8)) 1 = (q : Int) :=
        ⟨_, by show bitN s k = _; unfold bitN; rw [dif_pos hk8], by omega, bit_q _ (by have := s[k / 8].toNat_lt; omega) _⟩
      go_wp2_with (go_at_call 26; refine (writeByte_any (w.heap.size + 1) (w.heap.size + 1) _ _ _ hB (by simp [u8s, bitsTo]; omega) (by omega)).mono ?_; rintro e w1 ⟨rfl, hB1, hb1⟩)
      go_roundw
      case rel =>
        refine ⟨k + 1, by omega, by go_num, ?_, hb.trans (hb1.mono (by omega)), by have := hb1.size; omega⟩
        rw [bitsTo_succ, u8s_append]
        have : u8s [UInt8.ofNat (bitN s k)] = [.int .u8 (48 + (q : Int))] := by
          simp only [u8s, List.map_cons, List.map_nil]
          rw [hq.out, ofNat_toNat_lt _ (by omega)]
          simp
        rw [this]
        exact hB1
      case measure => simp [intOf]; omega
    · have hkk : Hid (k = 8 * s.size) := by show k = 8 * s.size; omega
      go_wp2_with (go_at_call 27; refine (Tryd.Builder_String_any (w.heap.size + 1) (w.heap.size + 1) (bitsTo s k) _ hB (by omega)).mono ?_; rintro e w1 ⟨rfl, hb1⟩)
      go_ret2
      exact ⟨by rw [H.out, hkk.out, h32.out]; rfl, hb.trans (hb1.mono (by omega))⟩

theorem implHashBits_any (s : ByteArray) (w : World) (hs : s.size ≤ maxLen) :
    Calls Tryd.prog 14 #[.string s] w fun e w' => e = .returned (.tuple #[.string (hashBitsR s).1, .int .i64 (hashBitsR s).2]) ∧ Below w.heap.size w w' := by
  unfold maxLen at hs
  have HI := Lib.hid (isLong_any (some ⟨w.heap.size, 0, none⟩) 1 1 [(s.size : Int)] (w.alloc (.cells #[.int .i64 s.size] 3)) (at_new _ _ _ _) rfl (by decide))
  have hbw : Below w.heap.size w (w.alloc (.cells #[.int .i64 s.size] 3)) := (Below.refl _ _).alloc (Nat.le_refl _) _
  rcases (show 65536 < s.size ∨ s.size = 32 ∨ (s.size ≤ 65536 ∧ s.size ≠ 32) by omega) with h | h | ⟨h, h'⟩
  · have H : Hid (hashBitsR s = (⟨#[]⟩, 2)) := if_pos h
    have h2 : ([(s.size : Int)].any fun x => decide (65536 < x)) = true := by simp; omega
    go_enter Tryd.func14, Tryd.ntmps14
    go_wp2_with (go_at_call 22; refine HI.out.mono ?_; rw [h2]; rintro e w' ⟨rfl, rfl⟩)
    go_ret2
    exact ⟨by rw [H.out]; rfl, hbw⟩
  · have H : Hid (hashBitsR s = (⟨(bitsTo s 256).toArray⟩, 0)) := by show hashBitsR s = _; rw [hashBitsR, if_neg (by omega), if_pos h]
    have h1 : ((s.size : Int) != 32) = false := by simp [h]
    have h3 : s.size ≤ 65536 := by omega
    have h32 := Lib.hid h
    have h2 : ([(s.size : Int)].any fun x => decide (65536 < x)) = false := by simp; omega
    exact implHashBits_32 s w h32 H h1 h3 h2 HI
  · have H : Hid (hashBitsR s = (⟨#[]⟩, 1)) := by show hashBitsR s = _; rw [hashBitsR, if_neg (by omega), if_neg h']
    have h1 : ((s.size : Int) != 32) = true := by simp; omega
    have h2 : ([(s.size : Int)].any fun x => decide (65536 < x)) = false := by simp; omega
    clear h'
    go_enter Tryd.func14, Tryd.ntmps14
    go_wp2_with (go_at_call 22; refine HI.out.mono ?_; rw [h2]; rintro e w' ⟨rfl, rfl⟩)
    go_ret2
    exact ⟨by rw [H.out]; rfl, hbw⟩

end Go.Proofs.YtfkpdinfoagfhaaDoor
