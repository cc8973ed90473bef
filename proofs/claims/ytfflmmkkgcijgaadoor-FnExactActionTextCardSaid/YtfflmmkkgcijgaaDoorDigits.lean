/-
  Contract of the reference's l00Digits: a number's decimal digits. Condition: the number is small.
-/
import Derived.Test.YtfflmmkkgcijgaaDoorIn
import Derived.Lib.ItoaNum
import Derived.Deep.RegionHeld
namespace Go.Proofs.YtfflmmkkgcijgaaDoor
open Go.ChangeShapes Go.WideShapes Go.ChangeAt Go.RowKit
set_option linter.unusedVariables false
set_option linter.unusedSimpArgs false
set_option maxRecDepth 100000
def numB (n : Nat) : ByteArray := ⟨(Lib.decDigits n).toArray⟩
theorem numB_small {n : Nat} (h : n < 10) : numB n = ⟨#[UInt8.ofNat (48 + n)]⟩ := by unfold numB; rw [Lib.decDigits, dif_pos h]
theorem numB_big {n : Nat} (h : ¬ n < 10) : numB n = numB (n / 10) ++ ⟨#[UInt8.ofNat (48 + n % 10)]⟩ := by
  unfold numB
  rw [Lib.decDigits, dif_neg h]
  apply ByteArray.ext
  simp
theorem numB_size : ∀ (k n : Nat), n < 10 ^ (k + 1) → (numB n).size ≤ k + 1
  | k, n, h => by
    by_cases hs : n < 10
    · rw [numB_small hs]; show 1 ≤ _; omega
    · match k, h with
      | 0, h => omega
      | k + 1, h =>
        have hd : n / 10 < 10 ^ (k + 1) := by rw [Nat.pow_succ] at h; omega
        have := numB_size k (n / 10) hd
        rw [numB_big hs, ByteArray.size_append]
        show _ + 1 ≤ _
        omega
theorem numB_le {n : Nat} (h : n ≤ 1000000) : (numB n).size ≤ 7 := numB_size 6 n (by omega)
/-- 'string([]byte{byte(v)})': the letter -/
theorem letter_any (v : Nat) (hv : v < 256) (W : World) (B : Nat) (h : W.heap[B]? = some (.cells #[.int .u8 (v : Int)] 5 (0, 0))) :
    (convert 71 9 (.slice (some ⟨B, 0, none⟩) 1 1)).run Tryd.prog W = .ok (.string ⟨#[UInt8.ofNat v]⟩) W := by
  have ha : At W (some ⟨B, 0, none⟩) (u8s [UInt8.ofNat v]) := by
    have := at_block h
    rw [show (#[Value.int .u8 (v : Int)] : Array Value).toList = u8s [UInt8.ofNat v] from by simp [u8s]; omega] at this
    exact this
  exact conv_at 71 9 5 1 1 Tryd.underlying71 Tryd.underlying5 Tryd.underlying9 ha rfl
attribute [local irreducible] wpList
set_option maxHeartbeats 1000000 in
theorem l00Digits_any : ∀ (n : Nat) (w : World), n ≤ 1000000 →
    Calls Tryd.prog 51 #[.int .i64 n] w fun e w' => e = .returned (.string (numB n)) ∧ Below w.heap.size w w' := by
  intro n
  induction n using Nat.strongRecOn with
  | _ n ih =>
    intro w hn
    by_cases h : n < 10
    · obtain ⟨xb, hxb⟩ : ∃ x, UInt8.ofNat (48 + n) = x := ⟨_, rfl⟩
      have hd : Hid (numB n = ⟨#[xb]⟩) := by show _ = _; rw [← hxb]; exact numB_small h
      have c0 := letter_any (48 + n) (by omega) (w.alloc (.cells #[.int .u8 ((48 + n : Nat) : Int)] 5)) w.heap.size (heap_alloc_new w _)
      have HB : Hid (Below w.heap.size w (w.alloc (.cells #[.int .u8 ((48 + n : Nat) : Int)] 5))) := (Below.refl _ _).alloc (Nat.le_refl _) _
      rw [show ((48 + n : Nat) : Int) = 48 + (n : Int) from by omega] at c0 HB
      rw [hxb] at c0
      clear ih hxb
      go_enter Tryd.func51, Tryd.ntmps51
      go_wp2
      go_ret
      exact ⟨ret_str hd.out.symm, HB.out⟩
    · have hd : Hid (numB n = numB (n / 10) ++ ⟨#[UInt8.ofNat (48 + n % 10)]⟩) := numB_big h
      obtain ⟨d, hdd⟩ : ∃ d, n % 10 = d := ⟨_, rfl⟩
      obtain ⟨q, hqq⟩ : ∃ q, n / 10 = q := ⟨_, rfl⟩
      have hd9 : d ≤ 9 := by omega
      have HI : Hid (∀ W, Calls Tryd.prog 51 #[.int .i64 (q : Int)] W fun e w' => e = .returned (.string (numB q)) ∧ Below W.heap.size W w') := fun W => ih q (by omega) W (by omega)
      rw [hqq, hdd] at hd
      obtain ⟨xb, hxb⟩ : ∃ x, UInt8.ofNat (48 + d) = x := ⟨_, rfl⟩
      rw [hxb] at hd
      have eq1 : (n : Int).tdiv 10 = (q : Int) := by rw [Int.tdiv_eq_ediv_of_nonneg (by omega)]; omega
      have eq2 : (n : Int).tmod 10 = (d : Int) := by rw [Int.tmod_eq_emod_of_nonneg (by omega)]; omega
      have eq3 : (n : Int) / 10 = (q : Int) := by omega
      have ew1 : IntKind.i64.wrap (q : Int) = (q : Int) := by rw [IntKind.wrap_i64]; omega
      have ew2 : IntKind.i64.wrap (48 + (d : Int)) = 48 + (d : Int) := by rw [IntKind.wrap_i64]; omega
      have ew3 : IntKind.u8.wrap (48 + (d : Int)) = 48 + (d : Int) := by simp [IntKind.wrap, IntKind.bits, IntKind.signed]; omega
      have eq4 : (n : Int) % 10 = (d : Int) := by omega
      have HLT : Hid (∀ (W : World) (B : Nat), W.heap[B]? = some (.cells #[.int .u8 (48 + (d : Int))] 5 (0, 0)) → (convert 71 9 (.slice (some ⟨B, 0, none⟩) 1 1)).run Tryd.prog W = .ok (.string ⟨#[xb]⟩) W) := fun W B h => by rw [← hxb]; exact letter_any (48 + d) (by omega) W B (by rw [show ((48 + d : Nat) : Int) = 48 + (d : Int) from by omega]; exact h)
      have c0 := HLT.out (w.alloc (.cells #[.int .u8 (48 + (d : Int))] 5)).drew w.heap.size (heap_alloc_new w _)
      have HB0 : Hid (Below w.heap.size w (w.alloc (.cells #[.int .u8 (48 + (d : Int))] 5)).drew) := ((Below.refl _ _).alloc (Nat.le_refl _) _).drew
      have hqs : (numB q).size ≤ 7 := numB_le (by omega)
      have hxs : (⟨#[xb]⟩ : ByteArray).size = 1 := rfl
      clear ih hdd hqq hxb
      go_enter Tryd.func51, Tryd.ntmps51
      go_wp2_with fail
      go_region_held (fun _ => True) (trivial)
        (first
        | (go_at_call 51; refine (HI.out _).mono ?_; rintro e w1 ⟨rfl, hb1⟩; first
            | (have BE0 : Below w.drew.heap.size w.drew w1 := (by with_reducible exact hb1); have c1 := HLT.out (w1.alloc (.cells #[.int .u8 (48 + (d : Int))] 5)) w1.heap.size (heap_alloc_new w1 _); have BE1 : Below w.heap.size w w1 := (Below.refl w.heap.size w).drew.trans BE0; have BE : Below w.heap.size w (w1.alloc (.cells #[.int .u8 (48 + (d : Int))] 5)) := BE1.alloc BE1.size _)
            | (have BE0 : Below (w.alloc (.cells #[.int .u8 (48 + (d : Int))] 5)).drew.heap.size (w.alloc (.cells #[.int .u8 (48 + (d : Int))] 5)).drew w1 := (by with_reducible exact hb1); have c1 := HLT.out w1 w.heap.size (box_below (W := (w.alloc (.cells #[.int .u8 (48 + (d : Int))] 5)).drew) (heap_alloc_new w _) BE0 (by show _ < (w.alloc _).heap.size; simp)); have BE : Below w.heap.size w w1 := HB0.out.trans (BE0.mono (by show _ ≤ (w.alloc _).heap.size; simp)))
            | fail)
        | fail)
      all_goals
        go_wp2
        go_ret
        exact ⟨ret_str hd.out.symm, BE⟩
end Go.Proofs.YtfflmmkkgcijgaaDoor
