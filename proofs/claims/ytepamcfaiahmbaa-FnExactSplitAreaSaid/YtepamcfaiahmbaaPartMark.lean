/-
  Contracts of the helpers of the laws' package that mark and look at layouts' parts. Conditions: bounds on lengths.
-/
import Derived.Test.YtepamcfaiahmbaaLayTo
namespace Go.Proofs.Ytepamcfaiahmbaa
open Go.ChangeShapes Go.WideShapes Go.ChangeAt Go.RowKit
set_option linter.unusedVariables false
set_option linter.unusedSimpArgs false
set_option maxRecDepth 100000

def markP (k0 j : Nat) : PartV := ⟨((k0 + 5 * j : Nat) : Int), decide ((k0 + 5 * j + 1) % 3 = 0), ((k0 + 5 * j + 2 : Nat) : Int), ((k0 + 5 * j + 3 : Nat) : Int), ((k0 + 5 * j + 4 : Nat) : Int)⟩
def marksPart (k0 n : Nat) : List PartV := (List.range n).map (markP k0)
theorem length_marksPart (k0 n : Nat) : (marksPart k0 n).length = n := by simp [marksPart]
theorem marksPart_snoc (k0 j : Nat) : marksPart k0 (j + 1) = marksPart k0 j ++ [markP k0 j] := by simp [marksPart, List.range_succ]
theorem marksP_set (k0 j : Nat) (l : List PartV) (h : j < l.length) :
    (marksPart k0 j ++ l.drop j).set j (markP k0 j) = marksPart k0 (j + 1) ++ l.drop (j + 1) := by
  have hlk : (marksPart k0 j).length = j := length_marksPart _ _
  rw [marksPart_snoc, List.set_append_right _ _ (by omega), hlk, Nat.sub_self, List.drop_eq_getElem_cons h, List.set_cons_zero, List.append_assoc]
  rfl
theorem mark_mod (x : Nat) : ((x : Int) % 3 == 0) = decide (x % 3 = 0) := by
  rw [Bool.eq_iff_iff]; simp; omega

set_option maxHeartbeats 400000 in
theorem markPartS_any (B : Nat) (ao : Option Addr) (n c : Nat) (l : List PartV) (k0 : Nat) (w : World) (hm : Mine B w ao (partsV l)) (hl : l.length = n) (hn : n ≤ 16777216) (hk : k0 ≤ 1099511627776) :
    Calls Try.prog 42 #[.slice ao n c, .int .i64 k0] w fun e w' => e = .returned (.int .i64 ((k0 : Int) + 5 * (n : Int))) ∧ Mine B w' ao (partsV (marksPart k0 n)) ∧ w.grownBy w' (blk ao) := by
  have HL := Lib.hid hl
  clear hl
  go_enter Try.func42, Try.ntmps42
  go_wp2
  go_loopw [1, 5] (fun kk i wr => ∃ j : Nat, j ≤ n ∧ i = .int .i64 j ∧ kk = .int .i64 ((k0 : Int) + 5 * (j : Int)) ∧ Mine B wr ao (partsV (marksPart k0 j ++ l.drop j)) ∧ w.grownBy wr (blk ao)) (fun _ i _ => n - (intOf i).toNat)
  case atStart => exact ⟨0, Nat.zero_le _, rfl, by go_num, hm, grownBy_refl _ _⟩
  case round =>
    obtain ⟨j, hj, rfl, rfl, hm, hg⟩ := hrel
    by_cases hjt : j < n
    · have hjl : j < l.length := by have := HL.out; omega
      have hlen : (marksPart k0 j ++ l.drop j).length = n := by have := HL.out; simp [length_marksPart]; omega
      have hlc := length_partsV (marksPart k0 j ++ l.drop j)
      rw [hlen] at hlc
      obtain ⟨b2, o2, rfl, hB, h2⟩ := hm.get (by intro e; rw [e] at hlc; have : 0 = n * 5 := hlc; omega)
      obtain ⟨old0, p0, f0⟩ : ∃ old, wr.cell? ⟨b2, o2 + j * 5, none⟩ = some old ∧ wr.frozen? ⟨b2, o2 + j * 5, none⟩ = false := ⟨_, by have := (h2 (j * 5) (by omega)).1; simpa only [Nat.add_assoc] using this, by have := (h2 (j * 5) (by omega)).2; simpa only [Nat.add_assoc] using this⟩
      obtain ⟨old1, p1, f1⟩ : ∃ old, wr.cell? ⟨b2, o2 + j * 5 + 1, none⟩ = some old ∧ wr.frozen? ⟨b2, o2 + j * 5 + 1, none⟩ = false := ⟨_, by have := (h2 (j * 5 + 1) (by omega)).1; simpa only [Nat.add_assoc] using this, by have := (h2 (j * 5 + 1) (by omega)).2; simpa only [Nat.add_assoc] using this⟩
      obtain ⟨old2, p2, f2⟩ : ∃ old, wr.cell? ⟨b2, o2 + j * 5 + 2, none⟩ = some old ∧ wr.frozen? ⟨b2, o2 + j * 5 + 2, none⟩ = false := ⟨_, by have := (h2 (j * 5 + 2) (by omega)).1; simpa only [Nat.add_assoc] using this, by have := (h2 (j * 5 + 2) (by omega)).2; simpa only [Nat.add_assoc] using this⟩
      obtain ⟨old3, p3, f3⟩ : ∃ old, wr.cell? ⟨b2, o2 + j * 5 + 3, none⟩ = some old ∧ wr.frozen? ⟨b2, o2 + j * 5 + 3, none⟩ = false := ⟨_, by have := (h2 (j * 5 + 3) (by omega)).1; simpa only [Nat.add_assoc] using this, by have := (h2 (j * 5 + 3) (by omega)).2; simpa only [Nat.add_assoc] using this⟩
      obtain ⟨old4, p4, f4⟩ : ∃ old, wr.cell? ⟨b2, o2 + j * 5 + 4, none⟩ = some old ∧ wr.frozen? ⟨b2, o2 + j * 5 + 4, none⟩ = false := ⟨_, by have := (h2 (j * 5 + 4) (by omega)).1; simpa only [Nat.add_assoc] using this, by have := (h2 (j * 5 + 4) (by omega)).2; simpa only [Nat.add_assoc] using this⟩
      have ht : (((k0 : Int) + 5 * (j : Int) + 1) % 3 == 0) = decide ((k0 + 5 * j + 1) % 3 = 0) := by
        rw [← mark_mod]; congr 2
      obtain ⟨bv, hbv⟩ : ∃ bv, decide ((k0 + 5 * j + 1) % 3 = 0) = bv := ⟨_, rfl⟩
      rw [hbv] at ht
      have hset : Hid (Mine B (((((wr.setCell ⟨b2, o2 + j * 5, none⟩ (.int .i64 ((k0 : Int) + 5 * (j : Int)))).setCell ⟨b2, o2 + j * 5 + 1, none⟩ (.bool bv)).setCell ⟨b2, o2 + j * 5 + 2, none⟩ (.int .i64 ((k0 : Int) + 5 * (j : Int) + 1 + 1))).setCell ⟨b2, o2 + j * 5 + 3, none⟩ (.int .i64 ((k0 : Int) + 5 * (j : Int) + 1 + 1 + 1))).setCell ⟨b2, o2 + j * 5 + 4, none⟩ (.int .i64 ((k0 : Int) + 5 * (j : Int) + 1 + 1 + 1 + 1))) (some ⟨b2, o2, none⟩) (partsV (marksPart k0 (j + 1) ++ l.drop (j + 1)))) := by
        have hp := partsV_set (marksPart k0 j ++ l.drop j) j (by omega) (markP k0 j)
        rw [marksP_set k0 j l hjl] at hp
        have g0 := Mine.store hB h2 (j * 5) (.int .i64 (markP k0 j).pane)
        have g1 := Mine.store hB g0 (j * 5 + 1) (.bool (markP k0 j).rows)
        have g2 := Mine.store hB g1 (j * 5 + 2) (.int .i64 (markP k0 j).size)
        have g3 := Mine.store hB g2 (j * 5 + 3) (.int .i64 (markP k0 j).left)
        have g4 := Mine.store hB g3 (j * 5 + 4) (.int .i64 (markP k0 j).right)
        rw [hp] at g4
        have e0 : (k0 : Int) + 5 * (j : Int) = (markP k0 j).pane := by unfold markP; simp
        have e1 : bv = (markP k0 j).rows := hbv.symm
        have e2 : (k0 : Int) + 5 * (j : Int) + 1 + 1 = (markP k0 j).size := by unfold markP; simp only; omega
        have e3 : (k0 : Int) + 5 * (j : Int) + 1 + 1 + 1 = (markP k0 j).left := by unfold markP; simp only; omega
        have e4 : (k0 : Int) + 5 * (j : Int) + 1 + 1 + 1 + 1 = (markP k0 j).right := by unfold markP; simp only; omega
        refine .inr ⟨b2, o2, rfl, hB, ?_⟩
        rw [e4, e3, e2, e1, e0]
        simpa only [Nat.add_assoc] using g4
      have hgs : w.grownBy (((((wr.setCell ⟨b2, o2 + j * 5, none⟩ (.int .i64 ((k0 : Int) + 5 * (j : Int)))).setCell ⟨b2, o2 + j * 5 + 1, none⟩ (.bool bv)).setCell ⟨b2, o2 + j * 5 + 2, none⟩ (.int .i64 ((k0 : Int) + 5 * (j : Int) + 1 + 1))).setCell ⟨b2, o2 + j * 5 + 3, none⟩ (.int .i64 ((k0 : Int) + 5 * (j : Int) + 1 + 1 + 1))).setCell ⟨b2, o2 + j * 5 + 4, none⟩ (.int .i64 ((k0 : Int) + 5 * (j : Int) + 1 + 1 + 1 + 1))) (blk (some ⟨b2, o2, none⟩)) := grownBy_trans (grownBy_trans (grownBy_trans (grownBy_trans (grownBy_trans hg grownBy_setCell) grownBy_setCell) grownBy_setCell) grownBy_setCell) grownBy_setCell
      have i1 : (0 : Int) ≤ (j : Int) := by omega
      have i2 : (j : Int) < (n : Int) := by omega
      clear h2 hlen hlc hm hg hbv
      go_wp2
      go_roundw
      case rel => exact ⟨j + 1, by omega, by go_num, by go_num, hset.out, hgs⟩
      case measure => simp [intOf]; omega
    · have HK : Hid (j = n) := by show j = n; omega
      have HM : Mine B wr ao (partsV (marksPart k0 n)) := by
        have hx : l.drop j = [] := List.drop_eq_nil_of_le (by have := HL.out; omega)
        rw [hx, List.append_nil, HK.out] at hm
        exact hm
      clear hm
      go_wp2
      go_ret
      exact ⟨ret_int (by rw [HK.out]), HM, hg⟩
theorem marksPart_get (k0 n j : Nat) (h : j < n) : (marksPart k0 n)[j]? = some (markP k0 j) := by simp [marksPart, h]
set_option maxHeartbeats 1000000 in
theorem heldPartS_any (ao : Option Addr) (n c : Nat) (k0 : Nat) (w : World) (hm : At w ao (partsV (marksPart k0 n))) (hn : n ≤ 16777216) (hk : k0 ≤ 1099511627776) :
    Calls Try.prog 43 #[.slice ao n c, .int .i64 k0] w fun e w' => e = .returned (.int .i64 ((k0 : Int) + 5 * (n : Int))) ∧ w = w' := by
  go_enter Try.func43, Try.ntmps43
  go_wp2
  go_loop [1, 5] (fun kk i => ∃ j : Nat, j ≤ n ∧ i = .int .i64 j ∧ kk = .int .i64 ((k0 : Int) + 5 * (j : Int))) (fun _ i => n - (intOf i).toNat)
  case atStart => exact ⟨0, Nat.zero_le _, rfl, by go_num⟩
  case round =>
    obtain ⟨j, hj, rfl, rfl⟩ := hrel
    by_cases hjt : j < n
    · obtain ⟨b2, o2, rfl, c0, c1, c2, c3, c4⟩ := At.part hm (marksPart_get k0 n j hjt)
      have ht : (((k0 : Int) + 5 * (j : Int) + 1) % 3 == 0) = decide ((k0 + 5 * j + 1) % 3 = 0) := by
        rw [← mark_mod]; congr 2
      have e0 : (k0 : Int) + 5 * (j : Int) = (markP k0 j).pane := by unfold markP; simp
      have e1 : decide ((k0 + 5 * j + 1) % 3 = 0) = (markP k0 j).rows := rfl
      have e2 : (k0 : Int) + 5 * (j : Int) + 1 + 1 = (markP k0 j).size := by unfold markP; simp only; omega
      have e3 : (k0 : Int) + 5 * (j : Int) + 1 + 1 + 1 = (markP k0 j).left := by unfold markP; simp only; omega
      have e4 : (k0 : Int) + 5 * (j : Int) + 1 + 1 + 1 + 1 = (markP k0 j).right := by unfold markP; simp only; omega
      rw [e1] at ht
      rw [← e0] at c0
      rw [← e2] at c2
      rw [← e3] at c3
      rw [← e4] at c4
      obtain ⟨bv, hbv⟩ : ∃ bv, (markP k0 j).rows = bv := ⟨_, rfl⟩
      rw [hbv] at ht c1
      have i1 : (0 : Int) ≤ (j : Int) := by omega
      have i2 : (j : Int) < (n : Int) := by omega
      clear e0 e1 e2 e3 e4 hm hbv
      cases bv
      all_goals
        go_wp2
        go_round
        case rel => exact ⟨j + 1, by omega, by go_num, by go_num⟩
        case measure => simp [intOf]; omega
    · have HK : Hid (j = n) := by show j = n; omega
      go_wp2
      go_ret
      exact ⟨ret_int (by rw [HK.out]), rfl⟩
/-- marking: the slice holds the marks, and nothing outside its block has turned -/
theorem markPartS_sl (B C : Nat) (ao : Option Addr) (n c : Nat) (l : List PartV) (k0 : Nat) (w : World) (hm : Sl B C w ao (partsV l)) (hl : l.length = n) (hn : n ≤ 16777216) (hk : k0 ≤ 1099511627776) (hB : B ≤ w.heap.size) :
    Calls Try.prog 42 #[.slice ao n c, .int .i64 k0] w fun e w' => e = .returned (.int .i64 ((k0 : Int) + 5 * (n : Int))) ∧ Sl B C w' ao (partsV (marksPart k0 n)) ∧ Chg B C w w' := by
  cases l with
  | nil =>
    subst hl
    go_enter Try.func42, Try.ntmps42
    go_wp2
    go_loop [1, 5] (fun kk i => i = .int .i64 0 ∧ kk = .int .i64 (k0 : Int)) (fun _ _ => 0)
    case atStart => exact ⟨rfl, rfl⟩
    case round =>
      obtain ⟨rfl, rfl⟩ := hrel
      go_wp2
      go_ret
      exact ⟨ret_int (by simp), .inl rfl, Below.refl _ _, fun _ _ _ => rfl⟩
  | cons x xs =>
    obtain ⟨b, off, rfl, hb1, hb2, hc⟩ := hm.resolve_left (by intro h; have := congrArg List.length h; rw [length_partsV] at this; simp at this)
    refine (markPartS_any B _ n c (x :: xs) k0 w (.inr ⟨b, off, rfl, hb1, hc⟩) hl hn hk).mono ?_
    rintro e w' ⟨rfl, hm', hg⟩
    have hg' : w.grownBy w' (some b) := hg
    refine ⟨rfl, ?_, below_of_grownBy hg' hB (fun k hk => by cases hk; exact hb1), fun k hk hk' => hg'.block k hk' (by intro e; cases e; omega)⟩
    rcases hm' with h | ⟨b', off', e, h1, h⟩
    · exact .inl h
    · cases e; exact .inr ⟨b, off, rfl, hb1, hb2, h⟩
end Go.Proofs.Ytepamcfaiahmbaa
