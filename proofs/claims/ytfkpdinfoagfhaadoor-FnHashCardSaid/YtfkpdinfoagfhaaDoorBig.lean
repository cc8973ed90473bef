/-
  Contracts of the given program's bigBytes and bigNumber and of the reference's l02Number and l02Of: numbers as bytes, the most significant first. Conditions: bounds on what is handed in.
-/
import Derived.Test.YtfkpdinfoagfhaaDoorSlices
import Derived.Laws.BitsAllLaws
import Derived.Laws.BitsLemmas
import Derived.Deep.AppendLies
namespace Go.Proofs.YtfkpdinfoagfhaaDoor
open Go.ChangeShapes Go.WideShapes Go.ChangeAt Go.RowKit
set_option linter.unusedVariables false

/-- a number in so many bytes -/
def bigL (n : Nat) : Nat → List UInt8
  | 0 => []
  | c + 1 => bigL (n / 256) c ++ [UInt8.ofNat (n % 256)]
theorem length_bigL : ∀ (c n : Nat), (bigL n c).length = c
  | 0, _ => rfl
  | c + 1, n => by simp [bigL, length_bigL c]
theorem bigL_cons : ∀ (c n : Nat), bigL n (c + 1) = UInt8.ofNat (n / 256 ^ c % 256) :: bigL n c
  | 0, n => by simp [bigL]
  | c + 1, n => by
    rw [bigL, bigL_cons c (n / 256), bigL, Nat.pow_succ, Nat.div_div_eq_div_mul, Nat.mul_comm 256]
    rfl
theorem bigL_take : ∀ (c n j : Nat), j < c → (bigL n c).take (j + 1) = (bigL n c).take j ++ [UInt8.ofNat (n / 256 ^ (c - 1 - j) % 256)]
  | 0, _, _, h => absurd h (by omega)
  | c + 1, n, j, h => by
    rw [bigL_cons]
    cases j with
    | zero => simp
    | succ j => rw [List.take_succ_cons, List.take_succ_cons, bigL_take c n j (by omega), show c + 1 - 1 - (j + 1) = c - 1 - j from by omega]; rfl
theorem ofNat_mod (n : Nat) : ((UInt8.ofNat (n % 256)).toNat : Int) = (n : Int) % 256 := by simp
theorem pow256 (j : Nat) : 2 ^ (8 * j) = 256 ^ j := by rw [Nat.pow_mul]

set_option maxHeartbeats 400000 in
set_option maxRecDepth 20000 in
theorem bigBytes_any (n c : Nat) (w : World) (hn : n ≤ 4611686018427387904) (hc : c ≤ 16) :
    Calls Tryd.prog 40 #[.int .i64 n, .int .i64 c] w fun e w' => e = .returned (.string ⟨(bigL n c).toArray⟩) ∧ Below w.heap.size w w' := by
  obtain ⟨i0, hi, hz0, hz1, hz2⟩ := info_parts Tryd.info_i8
  go_enter Tryd.func40, Tryd.ntmps40
  go_wp2_with (at_make; refine wpList_make_full _ rfl _ _ 22 rfl w.heap.size 5 i0 (.int .u8 0) 1 Tryd.underlying22 hi hz0 hz1 .i64 .i64 _ _ c rfl rfl rfl rfl (by rw [hz2]; omega) (by unfold maxLen; omega) (Nat.le_refl _) ?_; intro w0 hown0 hgrow0)
  have hz : Mine w.heap.size w0 (some ⟨w.heap.size, 0, none⟩) (List.replicate c (Value.int .u8 0) ++ u8s (bigL n 0)) := by
    have := own_at hown0
    rwa [show (madeCells (Value.cells (.int .u8 0)) (c * 1)).toList = List.replicate c (Value.int .u8 0) ++ u8s (bigL n 0) from by
      rw [Nat.mul_one, show u8s (bigL n 0) = [] from rfl, List.append_nil]; exact made_one _ c] at this
  have hb0 : Below w.heap.size w w0 := (Below.refl _ _).grown hgrow0 (Nat.le_refl _) (fun _ h => by cases h)
  clear hown0 hgrow0
  go_loopw [0, 6] (fun m i wr => ∃ j : Nat, j ≤ c ∧ i = .int .i64 ((c : Int) - 1 - (j : Int)) ∧ ∃ q : Nat, q ≤ n ∧ m = .int .i64 q ∧ Hid (q = n / 256 ^ j) ∧ Mine w.heap.size wr (some ⟨w.heap.size, 0, none⟩) (List.replicate (c - j) (Value.int .u8 0) ++ u8s (bigL n j)) ∧ Below w.heap.size w wr) (fun _ i _ => (intOf i + 1).toNat)
  case atStart => exact ⟨0, Nat.zero_le _, by go_num, n, Nat.le_refl _, rfl, by show n = _; simp, hz, hb0⟩
  case round =>
    obtain ⟨j, hj, rfl, q, hqn, rfl, hq, hm, hbel⟩ := hrel
    clear hz hb0
    by_cases hjt : j < c
    · obtain ⟨k, hk⟩ : ∃ k, c = k + 1 + j := ⟨c - 1 - j, by omega⟩
      subst hk
      obtain ⟨b2, o2, he, hB, h2⟩ := hm.get (by intro e; have := congrArg List.length e; simp [u8s] at this <;> omega)
      simp only [Option.some.injEq, Addr.mk.injEq, and_true] at he
      obtain ⟨rfl, rfl⟩ := he
      have hlen : (List.replicate (k + 1 + j - j) (Value.int .u8 0) ++ u8s (bigL n j)).length = k + 1 + j := by simp [u8s, length_bigL] <;> omega
      obtain ⟨old, c2, f2⟩ : ∃ old, wr.cell? ⟨w.heap.size, k, none⟩ = some old ∧ wr.frozen? ⟨w.heap.size, k, none⟩ = false := ⟨_, by have := (h2 k (by omega)).1; simpa only [Nat.zero_add] using this, by have := (h2 k (by omega)).2; simpa only [Nat.zero_add] using this⟩
      have hset : Hid (Mine w.heap.size (wr.setCell ⟨w.heap.size, k, none⟩ (Value.int .u8 ((q : Int) % 256))) (some ⟨w.heap.size, 0, none⟩) (List.replicate (k + 1 + j - (j + 1)) (Value.int .u8 0) ++ u8s (bigL n (j + 1)))) := by
        have e : (List.replicate (k + 1 + j - j) (Value.int .u8 0) ++ u8s (bigL n j)).set k (Value.int .u8 ((q : Int) % 256)) = List.replicate (k + 1 + j - (j + 1)) (Value.int .u8 0) ++ u8s (bigL n (j + 1)) := by
          rw [show k + 1 + j - j = k + 1 from by omega, show k + 1 + j - (j + 1) = k from by omega, bigL_cons, List.replicate_succ', List.append_assoc, List.set_append_right _ _ (by simp), List.length_replicate, Nat.sub_self]
          rw [List.cons_append, List.set_cons_zero, List.nil_append]
          congr 1
          simp only [u8s, List.map_cons]
          rw [← hq.out, ofNat_mod]
        have := Mine.store hB h2 k (Value.int .u8 ((q : Int) % 256))
        rw [e] at this
        exact .inr ⟨w.heap.size, 0, rfl, Nat.le_refl _, by simpa only [Nat.zero_add] using this⟩
      have hq' : Hid (q / 256 = n / 256 ^ (j + 1)) := by show _ = _; rw [hq.out, Nat.pow_succ, Nat.div_div_eq_div_mul]
      have e1 : ((k + 1 + j : Nat) : Int) - 1 - (j : Int) = (k : Int) := by omega
      have hbs := hbel.setCell (p := ⟨w.heap.size, k, none⟩) (Nat.le_refl _) (Value.int .u8 ((q : Int) % 256))
      rw [e1]
      clear h2 hlen hm e1
      go_wp2
      go_roundw
      case rel => exact ⟨j + 1, by omega, by go_num, q / 256, by omega, by go_num, hq', hset.out, hbs⟩
      case measure => simp [intOf] <;> omega
    · obtain rfl : j = c := by omega
      have hcv := conv_at (P := Tryd.prog) 22 9 5 j j Tryd.underlying22 Tryd.underlying5 Tryd.underlying9 (show At wr (some ⟨w.heap.size, 0, none⟩) (u8s (bigL n j)) by have := hm.at; rwa [Nat.sub_self] at this) (length_bigL _ _)
      clear hm
      go_wp2
      go_ret
      exact ⟨rfl, hbel⟩

/-- the number in some bytes -/
def numL (l : List UInt8) : Nat := l.foldl (fun n b => n * 256 + b.toNat) 0
theorem numL_lt : ∀ (k : Nat) (l : List UInt8), l.length ≤ k → numL l < 256 ^ k := by
  have H : ∀ (l : List UInt8) (n k : Nat), n < 256 ^ k → l.foldl (fun n b => n * 256 + b.toNat) n < 256 ^ (k + l.length) := by
    intro l
    induction l with
    | nil => intro n k h; exact h
    | cons b l ih =>
      intro n k h
      have hb := b.toNat_lt
      have := ih (n * 256 + b.toNat) (k + 1) (by rw [Nat.pow_succ]; omega)
      rw [List.foldl_cons, List.length_cons, show k + (l.length + 1) = k + 1 + l.length from by omega]
      exact this
  intro k l h
  have := H l 0 0 (by decide)
  rw [Nat.zero_add] at this
  exact Nat.lt_of_lt_of_le this (Nat.pow_le_pow_right (by decide) h)
theorem numL_snoc (l : List UInt8) (b : UInt8) : numL (l ++ [b]) = numL l * 256 + b.toNat := by simp [numL]

end Go.Proofs.YtfkpdinfoagfhaaDoor
