/-
  Contracts of the helpers of the laws' package that mark and look at cells, and at screens. Conditions: bounds on lengths.
-/
import Derived.Test.YtfdodbkopbmjeaaRepeat
import Derived.Test.YtfdodbkopbmjeaaScrTo
namespace Go.Proofs.Ytfdodbkopbmjeaa
open Go.ChangeShapes Go.WideShapes Go.ChangeAt Go.RowKit
set_option linter.unusedVariables false
set_option linter.unusedSimpArgs false
set_option maxRecDepth 20000

def marksCell (k0 n : Nat) : List (Int × Int) := (List.range n).map fun j => (((k0 + 2 * j : Nat) : Int), ((k0 + 2 * j + 1 : Nat) : Int))
theorem length_marksCell (k0 n : Nat) : (marksCell k0 n).length = n := by simp [marksCell]
theorem marksCell_snoc (k0 j : Nat) : marksCell k0 (j + 1) = marksCell k0 j ++ [(((k0 + 2 * j : Nat) : Int), ((k0 + 2 * j + 1 : Nat) : Int))] := by simp [marksCell, List.range_succ]

theorem marks_set (k0 j : Nat) (l : List (Int × Int)) (h : j < l.length) :
    (marksCell k0 j ++ l.drop j).set j (((k0 + 2 * j : Nat) : Int), ((k0 + 2 * j + 1 : Nat) : Int)) = marksCell k0 (j + 1) ++ l.drop (j + 1) := by
  have hlk : (marksCell k0 j).length = j := length_marksCell _ _
  rw [marksCell_snoc, List.set_append_right _ _ (by omega), hlk, Nat.sub_self, List.drop_eq_getElem_cons h, List.set_cons_zero, List.append_assoc]
  rfl

set_option maxHeartbeats 1000000 in
theorem markCellS_any (B : Nat) (ao : Option Addr) (n c : Nat) (l : List (Int × Int)) (k0 : Nat) (w : World) (hm : Mine B w ao (cellsV l)) (hl : l.length = n) (hn : n ≤ 16777216) (hk : k0 ≤ 1099511627776) :
    Calls Try.prog 23 #[.slice ao n c, .int .i64 k0] w fun e w' => e = .returned (.int .i64 ((k0 : Int) + 2 * (n : Int))) ∧ Mine B w' ao (cellsV (marksCell k0 n)) ∧ w.grownBy w' (blk ao) := by
  have HL := Lib.hid hl
  clear hl
  go_enter Try.func23, Try.ntmps23
  go_wp2
  go_loopw [1, 5] (fun kk i wr => ∃ j : Nat, j ≤ n ∧ i = .int .i64 j ∧ kk = .int .i64 ((k0 : Int) + 2 * (j : Int)) ∧ Mine B wr ao (cellsV (marksCell k0 j ++ l.drop j)) ∧ w.grownBy wr (blk ao)) (fun _ i _ => n - (intOf i).toNat)
  case atStart => exact ⟨0, Nat.zero_le _, rfl, by go_num, hm, grownBy_refl _ _⟩
  case round =>
    obtain ⟨j, hj, rfl, rfl, hm, hg⟩ := hrel
    by_cases hjt : j < n
    · have hjl : j < l.length := by have := HL.out; omega
      have hlen : (marksCell k0 j ++ l.drop j).length = n := by have := HL.out; simp [length_marksCell]; omega
      have hlc := length_cellsV (marksCell k0 j ++ l.drop j)
      rw [hlen] at hlc
      obtain ⟨b2, o2, rfl, hB, h2⟩ := hm.get (by intro e; rw [e] at hlc; have : 0 = 2 * n := hlc; omega)
      obtain ⟨old, p1, f1⟩ : ∃ old, wr.cell? ⟨b2, o2 + j * 2, none⟩ = some old ∧ wr.frozen? ⟨b2, o2 + j * 2, none⟩ = false := ⟨_, (h2 (j * 2) (by omega)).1, (h2 (j * 2) (by omega)).2⟩
      obtain ⟨old2, p2, f2⟩ : ∃ old, wr.cell? ⟨b2, o2 + j * 2 + 1, none⟩ = some old ∧ wr.frozen? ⟨b2, o2 + j * 2 + 1, none⟩ = false := ⟨_, by have := (h2 (j * 2 + 1) (by omega)).1; simpa only [Nat.add_assoc] using this, by have := (h2 (j * 2 + 1) (by omega)).2; simpa only [Nat.add_assoc] using this⟩
      have hset : Hid (Mine B ((wr.setCell ⟨b2, o2 + j * 2, none⟩ (.int .i64 ((k0 : Int) + 2 * (j : Int)))).setCell ⟨b2, o2 + j * 2 + 1, none⟩ (.int .i64 ((k0 : Int) + 2 * (j : Int) + 1))) (some ⟨b2, o2, none⟩) (cellsV (marksCell k0 (j + 1) ++ l.drop (j + 1)))) := by
        have g1 := Mine.store hB h2 (j * 2) (.int .i64 ((k0 : Int) + 2 * (j : Int)))
        have g2 := Mine.store hB g1 (j * 2 + 1) (.int .i64 ((k0 : Int) + 2 * (j : Int) + 1))
        have e1 : (k0 : Int) + 2 * (j : Int) = ((k0 + 2 * j : Nat) : Int) := by omega
        have e2 : (k0 : Int) + 2 * (j : Int) + 1 = ((k0 + 2 * j + 1 : Nat) : Int) := by omega
        rw [cellsV_set _ j (by omega), e2, e1, marks_set k0 j l hjl] at g2
        refine .inr ⟨b2, o2, rfl, hB, ?_⟩
        rw [e2, e1]
        simpa only [Nat.add_assoc] using g2
      have hgs := grownBy_trans (grownBy_trans hg (grownBy_setCell (w := wr) (b := b2) (off := o2 + j * 2) (v := (.int .i64 ((k0 : Int) + 2 * (j : Int)))))) (grownBy_setCell (b := b2) (off := o2 + j * 2 + 1) (v := (.int .i64 ((k0 : Int) + 2 * (j : Int) + 1))))
      have i1 : (0 : Int) ≤ (j : Int) := by omega
      have i2 : (j : Int) < (n : Int) := by omega
      clear h2 hlen hlc hm hg
      go_wp2
      go_roundw
      case rel => exact ⟨j + 1, by omega, by go_num, by go_num, hset.out, hgs⟩
      case measure => simp [intOf]; omega
    · have HK : Hid (j = n) := by show j = n; omega
      have HM : Mine B wr ao (cellsV (marksCell k0 n)) := by
        have hx : l.drop j = [] := List.drop_eq_nil_of_le (by have := HL.out; omega)
        rw [hx, List.append_nil, HK.out] at hm
        exact hm
      clear hm
      go_wp2
      go_ret
      exact ⟨ret_int (by rw [HK.out]), HM, hg⟩
theorem marksCell_get (k0 n j : Nat) (h : j < n) : (marksCell k0 n)[j]'(by rw [length_marksCell]; exact h) = (((k0 + 2 * j : Nat) : Int), ((k0 + 2 * j + 1 : Nat) : Int)) := by simp [marksCell]
set_option maxHeartbeats 1000000 in
theorem heldCellS_any (ao : Option Addr) (n c : Nat) (k0 : Nat) (w : World) (hm : At w ao (cellsV (marksCell k0 n))) (hn : n ≤ 16777216) (hk : k0 ≤ 1099511627776) :
    Calls Try.prog 25 #[.slice ao n c, .int .i64 k0] w fun e w' => e = .returned (.int .i64 ((k0 : Int) + 2 * (n : Int))) ∧ w = w' := by
  go_enter Try.func25, Try.ntmps25
  go_wp2
  go_loop [1, 5] (fun kk i => ∃ j : Nat, j ≤ n ∧ i = .int .i64 j ∧ kk = .int .i64 ((k0 : Int) + 2 * (j : Int))) (fun _ i => n - (intOf i).toNat)
  case atStart => exact ⟨0, Nat.zero_le _, rfl, by go_num⟩
  case round =>
    obtain ⟨j, hj, rfl, rfl⟩ := hrel
    by_cases hjt : j < n
    · obtain ⟨b2, o2, rfl, c1, c2⟩ := hm.cell2 (k := j) (by rw [length_marksCell]; exact hjt)
      rw [marksCell_get k0 n j hjt] at c1 c2
      have e1 : ((k0 + 2 * j : Nat) : Int) = (k0 : Int) + 2 * (j : Int) := by omega
      have e2 : ((k0 + 2 * j + 1 : Nat) : Int) = (k0 : Int) + 2 * (j : Int) + 1 := by omega
      dsimp only at c1 c2
      rw [e1] at c1
      rw [e2] at c2
      have i1 : (0 : Int) ≤ (j : Int) := by omega
      have i2 : (j : Int) < (n : Int) := by omega
      clear e1 e2 hm
      go_wp2
      go_round
      case rel => exact ⟨j + 1, by omega, by go_num, by go_num⟩
      case measure => simp [intOf]; omega
    · have HK : Hid (j = n) := by show j = n; omega
      go_wp2
      go_ret
      exact ⟨ret_int (by rw [HK.out]), rfl⟩
/-- marking: the slice holds the marks, and nothing outside its block has turned -/
theorem markCellS_sl (B C : Nat) (ao : Option Addr) (n c : Nat) (l : List (Int × Int)) (k0 : Nat) (w : World) (hm : Sl B C w ao (cellsV l)) (hl : l.length = n) (hn : n ≤ 16777216) (hk : k0 ≤ 1099511627776) (hB : B ≤ w.heap.size) :
    Calls Try.prog 23 #[.slice ao n c, .int .i64 k0] w fun e w' => e = .returned (.int .i64 ((k0 : Int) + 2 * (n : Int))) ∧ Sl B C w' ao (cellsV (marksCell k0 n)) ∧ Chg B C w w' := by
  cases l with
  | nil =>
    subst hl
    go_enter Try.func23, Try.ntmps23
    go_wp2
    go_loop [1, 5] (fun kk i => i = .int .i64 0 ∧ kk = .int .i64 (k0 : Int)) (fun _ _ => 0)
    case atStart => exact ⟨rfl, rfl⟩
    case round =>
      obtain ⟨rfl, rfl⟩ := hrel
      go_wp2
      go_ret
      exact ⟨ret_int (by simp), .inl rfl, Below.refl _ _, fun _ _ _ => rfl⟩
  | cons x xs =>
    obtain ⟨b, off, rfl, hb1, hb2, hc⟩ := hm.resolve_left (by intro h; have := congrArg List.length h; rw [length_cellsV] at this; simp at this)
    refine (markCellS_any B _ n c (x :: xs) k0 w (.inr ⟨b, off, rfl, hb1, hc⟩) hl hn hk).mono ?_
    rintro e w' ⟨rfl, hm', hg⟩
    have hg' : w.grownBy w' (some b) := hg
    refine ⟨rfl, ?_, below_of_grownBy hg' hB (fun k hk => by cases hk; exact hb1), fun k hk hk' => hg'.block k hk' (by intro e; cases e; omega)⟩
    rcases hm' with h | ⟨b', off', e, h1, h⟩
    · exact .inl h
    · cases e; exact .inr ⟨b, off, rfl, hb1, hb2, h⟩
end Go.Proofs.Ytfdodbkopbmjeaa
