/-
  Contracts of slices.Repeat at cells, of blanks and l04Blank. Conditions: bounds on the number.
-/
import Derived.Test.YtfpbboldfilhlaaDoorCells
import Derived.Test.YtfpbboldfilhlaaDoorCopy
import Derived.Test.YtfpbboldfilhlaaDoorShelf
import Derived.Deep.AppendLies
namespace Go.Proofs.YtfpbboldfilhlaaDoor
open Go.ChangeShapes Go.WideShapes Go.ChangeAt Go.RowKit
set_option linter.unusedVariables false
set_option linter.unusedSimpArgs false
set_option maxRecDepth 20000

theorem cellsV_one (l : List (Int × Int)) : ∀ v ∈ cellsV l, v.oneCell' = true := by
  intro v hv
  simp only [cellsV, List.mem_flatMap, List.mem_cons, List.not_mem_nil, or_false] at hv
  obtain ⟨c, _, rfl | rfl⟩ := hv <;> rfl
theorem cellsV_take (l : List (Int × Int)) (k : Nat) : (cellsV l).take (k * 2) = cellsV (l.take k) := by
  induction l generalizing k with
  | nil => simp [cellsV]
  | cons a l ih =>
    cases k with
    | zero => simp [cellsV]
    | succ k =>
      have e : cellsV (a :: l) = .int .i64 a.1 :: .int .i64 a.2 :: cellsV l := rfl
      rw [e, show (k + 1) * 2 = k * 2 + 1 + 1 from by omega, List.take_succ_cons, List.take_succ_cons, ih]; rfl
theorem cellsV_drop (l : List (Int × Int)) (k : Nat) : (cellsV l).drop (k * 2) = cellsV (l.drop k) := by
  induction l generalizing k with
  | nil => simp [cellsV]
  | cons a l ih =>
    cases k with
    | zero => simp
    | succ k =>
      have e : cellsV (a :: l) = .int .i64 a.1 :: .int .i64 a.2 :: cellsV l := rfl
      rw [e, show (k + 1) * 2 = k * 2 + 1 + 1 from by omega, List.drop_succ_cons, List.drop_succ_cons, ih]; rfl
/-- the source's cells of a copy, as the law asks for them -/
theorem at_src {w : World} {b off : Nat} {xs : List Value} (h : At w (some ⟨b, off, none⟩) xs) (k n : Nat) : ∀ j v, ((xs.drop k).take n)[j]? = some v → w.cell? ((⟨b, off + k, none⟩ : Addr).add j) = some v := by
  intro j v hj
  have hadd : (⟨b, off + k, none⟩ : Addr).add j = ⟨b, off + k + j, none⟩ := by unfold Addr.add; split <;> simp_all
  rw [hadd]
  obtain ⟨hlt, hv⟩ := List.getElem?_eq_some_iff.1 hj
  rcases h with h | ⟨b', off', e, h⟩
  · subst h; simp at hlt
  · simp only [Option.some.injEq, Addr.mk.injEq, and_true] at e
    obtain ⟨rfl, rfl⟩ := e
    have hkl : k + j < xs.length := by simp at hlt; omega
    have := h (k + j) hkl
    rw [show off + k + j = off + (k + j) from by omega, this]
    simp at hv; rw [hv]
theorem mine_cells {B b off : Nat} {w : World} {xs : List Value} (h : Mine B w (some ⟨b, off, none⟩) xs) : ∀ i (h : i < xs.length), w.cell? ⟨b, off + i, none⟩ = some xs[i] ∧ w.frozen? ⟨b, off + i, none⟩ = false := by
  rcases h with h | ⟨b', off', e, _, h⟩
  · subst h; intro i hi; simp at hi
  · simp only [Option.some.injEq, Addr.mk.injEq, and_true] at e
    obtain ⟨rfl, rfl⟩ := e
    exact h

set_option maxHeartbeats 2000000 in
theorem repeatCell_any (r l : Int) (a : Addr) (c n : Nat) (w : World) (h0 : w.cell? a = some (.int .i64 r)) (h1 : w.cell? (a.add 1) = some (.int .i64 l)) (hn1 : 1 ≤ n) (hn : n ≤ 1048576) :
    Calls Tryd.prog 38 #[.slice (some a) 1 c, .int .i64 n] w fun e w' => ∃ ao cap, e = .returned (.slice ao n cap) ∧ n ≤ cap ∧ Mine w.heap.size w' ao (cellsV (List.replicate n (r, l))) ∧ Below w.heap.size w w' := by
  obtain ⟨i0, hi, hz0, hz1, hz2⟩ := info_parts Tryd.info_cell
  have hq : ((n : Int) % 18446744073709551616) = (n : Int) := by omega
  go_enter Tryd.func38, Tryd.ntmps38
  go_wp2_with fail
  refine (Tryd.bits_Mul 1 n (by omega) (by omega) w).mono ?_
  rintro e w2 ⟨rfl, hw⟩
  subst w2
  have e1 : 1 * n / 18446744073709551616 = 0 := by omega
  have e2 : 1 * n % 18446744073709551616 = n := by omega
  rw [e1, e2]
  clear e1 e2
  go_wp2_with (
    at_make
    refine wpList_make_full _ rfl _ _ 24 rfl w.heap.size 57 i0 (Value.agg #[.int .i64 0, .int .i64 0]) 2 Tryd.underlying24 hi hz0 hz1 .i64 .i64 _ _ n rfl rfl rfl rfl (by rw [hz2]; omega) (by unfold maxLen; omega) (Nat.le_refl _) ?_
    intro w0 hown0 hgrow0
    have hm0 : Mine w.heap.size w0 (some ⟨w.heap.size, 0, none⟩) (cellsV (List.replicate n (0, 0))) := by
      have := own_at hown0
      rwa [show (madeCells (Value.cells (Value.agg #[.int .i64 0, .int .i64 0])) (n * 2)).toList = cellsV (List.replicate n (0, 0)) from made_zeros n] at this
    have hb0 : Below w.heap.size w w0 := (Below.refl _ _).grown hgrow0 (Nat.le_refl _) (fun _ h => by cases h)
    have g0 : w0.cell? a = some (.int .i64 r) := (hb0.cell (World.block_lt_of_cell? w _ h0)).trans h0
    have g1 : w0.cell? (a.add 1) = some (.int .i64 l) := (hb0.cell (World.block_lt_of_cell? w _ h1)).trans h1
    clear hown0 hgrow0 h0 h1
    have hl0 := length_cellsV (List.replicate n ((0 : Int), (0 : Int)))
    rw [List.length_replicate] at hl0
    have hcf := mine_cells hm0
    have hm1 := mine_setCells (B := w.heap.size) (off := 0) (Nat.le_refl _) hcf 0 [.int .i64 r, .int .i64 l] (by rw [hl0]; simp; omega)
    have hb1 := below_setCells (B := w.heap.size) (b := w.heap.size) (Nat.le_refl _) [.int .i64 r, .int .i64 l] 0 w0 hb0
    have hn2 : ([.int .i64 r, .int .i64 l] : List Value).length = Nat.min 1 n * 2 := by rw [show Nat.min 1 n = 1 from Nat.min_eq_left hn1]; rfl
    have hmn : Nat.min 1 n = 1 := Nat.min_eq_left hn1
    have hrun := run_copy_cellsZ (P := Tryd.prog) w0 24 24 3 57 2 w.heap.size 0 n n a 1 c [.int .i64 r, .int .i64 l] Tryd.underlying24 (by rw [hi]; exact congrArg some hz1) hn2
      (by
        intro j v hj
        match j, hj with
        | 0, hj => simp at hj; subst hj; simpa [Addr.add] using g0
        | 1, hj => simp at hj; subst hj; exact g1)
      (by intro j hj; rw [(hcf j (by rw [hl0]; simp at hj; omega)).1]; rfl) (by intro j hj; exact (hcf j (by rw [hl0]; simp at hj; omega)).2) (by intro v hv; simp at hv; rcases hv with rfl | rfl <;> rfl)
    rw [hmn] at hrun
    generalize w0.setCells w.heap.size 0 [.int .i64 r, .int .i64 l] = w1 at *
    clear hcf hm0 g0 g1 hb0 hl0 hn2 hmn
    have hms : Mine w.heap.size w1 (some ⟨w.heap.size, 0, none⟩) (cellsV (List.replicate 1 (r, l) ++ List.replicate (n - 1) (0, 0))) := by
      have e : (cellsV (List.replicate n ((0 : Int), (0 : Int)))).take 0 ++ ([.int .i64 r, .int .i64 l] ++ (cellsV (List.replicate n (0, 0))).drop (0 + 2)) = cellsV (List.replicate 1 (r, l) ++ List.replicate (n - 1) (0, 0)) := by
        rw [show 0 + 2 = 1 * 2 from rfl, cellsV_drop, List.drop_replicate]
        simp [cellsV]
      rw [← e]; exact hm1
    clear hm1
    have HMS := Lib.hid hms
    clear hms)
  go_loopw [8] (fun i wr => ∃ k : Nat, 1 ≤ k ∧ k ≤ n ∧ i = .int .i64 k ∧ Mine w.heap.size wr (some ⟨w.heap.size, 0, none⟩) (cellsV (List.replicate k (r, l) ++ List.replicate (n - k) (0, 0))) ∧ Below w.heap.size w wr) (fun i _ => n - (intOf i).toNat)
  case atStart => exact ⟨1, Nat.le_refl _, hn1, rfl, HMS.out, hb1⟩
  case round =>
    obtain ⟨k, hk1, hk, rfl, hm, hbel⟩ := hrel
    clear HMS hb1
    by_cases hlt : k < n
    · have i1 : (k : Int) < (n : Int) := by omega
      have HM := Lib.hid hm
      clear hm
      have hne : ¬ n = k := by omega
      have hlm : (List.replicate k (r, l) ++ List.replicate (n - k) ((0 : Int), (0 : Int))).length = n := by simp; omega
      have hl1 := length_cellsV (List.replicate k (r, l) ++ List.replicate (n - k) ((0 : Int), (0 : Int)))
      rw [hlm] at hl1
      obtain ⟨m, hm⟩ : ∃ m, Nat.min k (n - k) = m := ⟨_, rfl⟩
      have hm1 : 1 ≤ m := by rw [← hm]; show 1 ≤ min k (n - k); omega
      have hm2 : m ≤ k := by rw [← hm]; exact Nat.min_le_left _ _
      have hm3 : m ≤ n - k := by rw [← hm]; exact Nat.min_le_right _ _
      have hlr : (cellsV (List.replicate m (r, l))).length = m * 2 := by rw [length_cellsV, List.length_replicate]; omega
      have hmd : Mine w.heap.size wr.drew (some ⟨w.heap.size, 0, none⟩) (cellsV (List.replicate k (r, l) ++ List.replicate (n - k) (0, 0))) := HM.out
      have hcf := mine_cells hmd
      have hsrc := at_src hmd.at 0 (m * 2)
      rw [List.drop_zero, cellsV_take, show (List.replicate k (r, l) ++ List.replicate (n - k) ((0 : Int), (0 : Int))).take m = List.replicate m (r, l) from by rw [List.take_append_of_le_length (by simp; omega), List.take_replicate, Nat.min_eq_left hm2]] at hsrc
      have hm4 := mine_setCells (B := w.heap.size) (off := 0) (Nat.le_refl _) hcf (k * 2) (cellsV (List.replicate m (r, l))) (by rw [hl1, hlr]; omega)
      have hb4 := below_setCells (B := w.heap.size) (b := w.heap.size) (Nat.le_refl _) (cellsV (List.replicate m (r, l))) (0 + k * 2) wr.drew hbel.drew
      have hrun := run_copy_cellsZ (P := Tryd.prog) wr.drew 24 24 3 57 2 w.heap.size (0 + k * 2) (n - k) (n - k) ⟨w.heap.size, 0, none⟩ k n (cellsV (List.replicate m (r, l))) Tryd.underlying24 (by rw [hi]; exact congrArg some hz1) (by rw [hm]; exact hlr) hsrc
        (fun j hj => by
          rw [hlr] at hj
          rw [show 0 + k * 2 + j = 0 + (k * 2 + j) from by omega, (hcf (k * 2 + j) (by rw [hl1]; omega)).1]; rfl)
        (fun j hj => by
          rw [hlr] at hj
          rw [show 0 + k * 2 + j = 0 + (k * 2 + j) from by omega]
          exact (hcf (k * 2 + j) (by rw [hl1]; omega)).2) (cellsV_one _)
      have e : (cellsV (List.replicate k (r, l) ++ List.replicate (n - k) ((0 : Int), (0 : Int)))).take (k * 2) ++ (cellsV (List.replicate m (r, l)) ++ (cellsV (List.replicate k (r, l) ++ List.replicate (n - k) (0, 0))).drop (k * 2 + (cellsV (List.replicate m (r, l))).length)) = cellsV (List.replicate (k + m) (r, l) ++ List.replicate (n - (k + m)) (0, 0)) := by
        rw [hlr, ← Nat.add_mul, cellsV_take, cellsV_drop, ← cellsV_append, ← cellsV_append]
        congr 1
        rw [List.take_append_of_le_length (by simp), List.take_replicate, Nat.min_self, List.drop_append, List.drop_replicate, List.drop_replicate, List.length_replicate, ← List.append_assoc, ← List.append_assoc, List.replicate_append_replicate, show k - (k + m) = 0 from by omega, List.replicate_zero, List.append_nil]
        congr 2; omega
      rw [e] at hm4
      rw [hm] at hrun
      simp only [Nat.zero_add] at hrun hm4 hb4
      generalize wr.drew.setCells w.heap.size (k * 2) (cellsV (List.replicate m (r, l))) = w2 at *
      have HM4 := Lib.hid hm4
      clear e hm4 hsrc hm hlr hcf hlm hl1 HM hmd
      go_wp2_with fail
      go_region
      go_wp2
      go_roundw
      case rel => exact ⟨k + m, by omega, by omega, by go_num, HM4.out, hb4⟩
      case measure => simp [intOf]; omega
    · have i1 : (n : Int) ≤ (k : Int) := by omega
      have hkn : k = n := by omega
      have HM : Hid (Mine w.heap.size wr (some ⟨w.heap.size, 0, none⟩) (cellsV (List.replicate n (r, l)))) := by subst hkn; show Mine _ _ _ _; simpa using hm
      clear hm
      go_wp2
      go_ret
      exact ⟨_, _, rfl, Nat.le_refl _, HM.out, hbel⟩
end Go.Proofs.YtfpbboldfilhlaaDoor
