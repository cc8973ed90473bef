/-
  Contracts of the helpers of the laws' package that mark and look at layouts' areas. Conditions: bounds on lengths.
-/
import Derived.Test.YtepamcfaiahmbaaLayTo
import Derived.Test.YtepamcfaiahmbaaLayTree
namespace Go.Proofs.Ytepamcfaiahmbaa
open Go.ChangeShapes Go.WideShapes Go.ChangeAt Go.RowKit
set_option linter.unusedVariables false
set_option linter.unusedSimpArgs false
set_option maxRecDepth 100000

def markA (k0 j : Nat) : AreaV := ⟨((k0 + 5 * j : Nat) : Int), ((k0 + 5 * j + 1 : Nat) : Int), ((k0 + 5 * j + 2 : Nat) : Int), ((k0 + 5 * j + 3 : Nat) : Int), ((k0 + 5 * j + 4 : Nat) : Int)⟩
def marksArea (k0 n : Nat) : List AreaV := (List.range n).map (markA k0)
theorem length_marksArea (k0 n : Nat) : (marksArea k0 n).length = n := by simp [marksArea]
theorem marksArea_snoc (k0 j : Nat) : marksArea k0 (j + 1) = marksArea k0 j ++ [markA k0 j] := by simp [marksArea, List.range_succ]
theorem marksA_set (k0 j : Nat) (l : List AreaV) (h : j < l.length) :
    (marksArea k0 j ++ l.drop j).set j (markA k0 j) = marksArea k0 (j + 1) ++ l.drop (j + 1) := by
  have hlk : (marksArea k0 j).length = j := length_marksArea _ _
  rw [marksArea_snoc, List.set_append_right _ _ (by omega), hlk, Nat.sub_self, List.drop_eq_getElem_cons h, List.set_cons_zero, List.append_assoc]
  rfl
theorem length_areasV (l : List AreaV) : (areasV l).length = l.length * 5 := by
  induction l with
  | nil => rfl
  | cons a l ih => simp only [areasV, List.flatMap_cons, List.length_append] at ih ⊢; rw [ih]; simp only [areaC, List.length_cons, List.length_nil]; omega
theorem areasV_set : ∀ (l : List AreaV) (k : Nat) (h : k < l.length) (p : AreaV), ((((((areasV l).set (k * 5) (.int .i64 p.pane)).set (k * 5 + 1) (.int .i64 p.x)).set (k * 5 + 2) (.int .i64 p.y)).set (k * 5 + 3) (.int .i64 p.w)).set (k * 5 + 4) (.int .i64 p.h)) = areasV (l.set k p)
  | a :: l, 0, h, p => rfl
  | a :: l, k + 1, h, p => by
    have e : areasV (a :: l) = .int .i64 a.pane :: .int .i64 a.x :: .int .i64 a.y :: .int .i64 a.w :: .int .i64 a.h :: areasV l := rfl
    have e0 : (k + 1) * 5 = (k * 5) + 1 + 1 + 1 + 1 + 1 := by omega
    have e1 : (k + 1) * 5 + 1 = (k * 5 + 1) + 1 + 1 + 1 + 1 + 1 := by omega
    have e2 : (k + 1) * 5 + 2 = (k * 5 + 2) + 1 + 1 + 1 + 1 + 1 := by omega
    have e3 : (k + 1) * 5 + 3 = (k * 5 + 3) + 1 + 1 + 1 + 1 + 1 := by omega
    have e4 : (k + 1) * 5 + 4 = (k * 5 + 4) + 1 + 1 + 1 + 1 + 1 := by omega
    rw [e, e4, e3, e2, e1, e0]
    simp only [List.set_cons_succ]
    rw [areasV_set l k (by simpa using h) p]
    rfl

set_option maxHeartbeats 400000 in
theorem markAreaS_any (B : Nat) (ao : Option Addr) (n c : Nat) (l : List AreaV) (k0 : Nat) (w : World) (hm : Mine B w ao (areasV l)) (hl : l.length = n) (hn : n ≤ 16777216) (hk : k0 ≤ 1099511627776) :
    Calls Try.prog 24 #[.slice ao n c, .int .i64 k0] w fun e w' => e = .returned (.int .i64 ((k0 : Int) + 5 * (n : Int))) ∧ Mine B w' ao (areasV (marksArea k0 n)) ∧ w.grownBy w' (blk ao) := by
  have HL := Lib.hid hl
  clear hl
  go_enter Try.func24, Try.ntmps24
  go_wp2
  go_loopw [1, 5] (fun kk i wr => ∃ j : Nat, j ≤ n ∧ i = .int .i64 j ∧ kk = .int .i64 ((k0 : Int) + 5 * (j : Int)) ∧ Mine B wr ao (areasV (marksArea k0 j ++ l.drop j)) ∧ w.grownBy wr (blk ao)) (fun _ i _ => n - (intOf i).toNat)
  case atStart => exact ⟨0, Nat.zero_le _, rfl, by go_num, hm, grownBy_refl _ _⟩
  case round =>
    obtain ⟨j, hj, rfl, rfl, hm, hg⟩ := hrel
    by_cases hjt : j < n
    · have hjl : j < l.length := by have := HL.out; omega
      have hlen : (marksArea k0 j ++ l.drop j).length = n := by have := HL.out; simp [length_marksArea]; omega
      have hlc := length_areasV (marksArea k0 j ++ l.drop j)
      rw [hlen] at hlc
      obtain ⟨b2, o2, rfl, hB, h2⟩ := hm.get (by intro e; rw [e] at hlc; have : 0 = n * 5 := hlc; omega)
      obtain ⟨old0, p0, f0⟩ : ∃ old, wr.cell? ⟨b2, o2 + j * 5, none⟩ = some old ∧ wr.frozen? ⟨b2, o2 + j * 5, none⟩ = false := ⟨_, by have := (h2 (j * 5) (by omega)).1; simpa only [Nat.add_assoc] using this, by have := (h2 (j * 5) (by omega)).2; simpa only [Nat.add_assoc] using this⟩
      obtain ⟨old1, p1, f1⟩ : ∃ old, wr.cell? ⟨b2, o2 + j * 5 + 1, none⟩ = some old ∧ wr.frozen? ⟨b2, o2 + j * 5 + 1, none⟩ = false := ⟨_, by have := (h2 (j * 5 + 1) (by omega)).1; simpa only [Nat.add_assoc] using this, by have := (h2 (j * 5 + 1) (by omega)).2; simpa only [Nat.add_assoc] using this⟩
      obtain ⟨old2, p2, f2⟩ : ∃ old, wr.cell? ⟨b2, o2 + j * 5 + 2, none⟩ = some old ∧ wr.frozen? ⟨b2, o2 + j * 5 + 2, none⟩ = false := ⟨_, by have := (h2 (j * 5 + 2) (by omega)).1; simpa only [Nat.add_assoc] using this, by have := (h2 (j * 5 + 2) (by omega)).2; simpa only [Nat.add_assoc] using this⟩
      obtain ⟨old3, p3, f3⟩ : ∃ old, wr.cell? ⟨b2, o2 + j * 5 + 3, none⟩ = some old ∧ wr.frozen? ⟨b2, o2 + j * 5 + 3, none⟩ = false := ⟨_, by have := (h2 (j * 5 + 3) (by omega)).1; simpa only [Nat.add_assoc] using this, by have := (h2 (j * 5 + 3) (by omega)).2; simpa only [Nat.add_assoc] using this⟩
      obtain ⟨old4, p4, f4⟩ : ∃ old, wr.cell? ⟨b2, o2 + j * 5 + 4, none⟩ = some old ∧ wr.frozen? ⟨b2, o2 + j * 5 + 4, none⟩ = false := ⟨_, by have := (h2 (j * 5 + 4) (by omega)).1; simpa only [Nat.add_assoc] using this, by have := (h2 (j * 5 + 4) (by omega)).2; simpa only [Nat.add_assoc] using this⟩
      have hset : Hid (Mine B (((((wr.setCell ⟨b2, o2 + j * 5, none⟩ (.int .i64 ((k0 : Int) + 5 * (j : Int)))).setCell ⟨b2, o2 + j * 5 + 1, none⟩ (.int .i64 ((k0 : Int) + 5 * (j : Int) + 1))).setCell ⟨b2, o2 + j * 5 + 2, none⟩ (.int .i64 ((k0 : Int) + 5 * (j : Int) + 1 + 1))).setCell ⟨b2, o2 + j * 5 + 3, none⟩ (.int .i64 ((k0 : Int) + 5 * (j : Int) + 1 + 1 + 1))).setCell ⟨b2, o2 + j * 5 + 4, none⟩ (.int .i64 ((k0 : Int) + 5 * (j : Int) + 1 + 1 + 1 + 1))) (some ⟨b2, o2, none⟩) (areasV (marksArea k0 (j + 1) ++ l.drop (j + 1)))) := by
        have hp := areasV_set (marksArea k0 j ++ l.drop j) j (by omega) (markA k0 j)
        rw [marksA_set k0 j l hjl] at hp
        have g0 := Mine.store hB h2 (j * 5) (.int .i64 (markA k0 j).pane)
        have g1 := Mine.store hB g0 (j * 5 + 1) (.int .i64 (markA k0 j).x)
        have g2 := Mine.store hB g1 (j * 5 + 2) (.int .i64 (markA k0 j).y)
        have g3 := Mine.store hB g2 (j * 5 + 3) (.int .i64 (markA k0 j).w)
        have g4 := Mine.store hB g3 (j * 5 + 4) (.int .i64 (markA k0 j).h)
        rw [hp] at g4
        have e0 : (k0 : Int) + 5 * (j : Int) = (markA k0 j).pane := by unfold markA; simp
        have e1 : (k0 : Int) + 5 * (j : Int) + 1 = (markA k0 j).x := by unfold markA; simp only; omega
        have e2 : (k0 : Int) + 5 * (j : Int) + 1 + 1 = (markA k0 j).y := by unfold markA; simp only; omega
        have e3 : (k0 : Int) + 5 * (j : Int) + 1 + 1 + 1 = (markA k0 j).w := by unfold markA; simp only; omega
        have e4 : (k0 : Int) + 5 * (j : Int) + 1 + 1 + 1 + 1 = (markA k0 j).h := by unfold markA; simp only; omega
        refine .inr ⟨b2, o2, rfl, hB, ?_⟩
        rw [e4, e3, e2, e1, e0]
        simpa only [Nat.add_assoc] using g4
      have hgs : w.grownBy (((((wr.setCell ⟨b2, o2 + j * 5, none⟩ (.int .i64 ((k0 : Int) + 5 * (j : Int)))).setCell ⟨b2, o2 + j * 5 + 1, none⟩ (.int .i64 ((k0 : Int) + 5 * (j : Int) + 1))).setCell ⟨b2, o2 + j * 5 + 2, none⟩ (.int .i64 ((k0 : Int) + 5 * (j : Int) + 1 + 1))).setCell ⟨b2, o2 + j * 5 + 3, none⟩ (.int .i64 ((k0 : Int) + 5 * (j : Int) + 1 + 1 + 1))).setCell ⟨b2, o2 + j * 5 + 4, none⟩ (.int .i64 ((k0 : Int) + 5 * (j : Int) + 1 + 1 + 1 + 1))) (blk (some ⟨b2, o2, none⟩)) := grownBy_trans (grownBy_trans (grownBy_trans (grownBy_trans (grownBy_trans hg grownBy_setCell) grownBy_setCell) grownBy_setCell) grownBy_setCell) grownBy_setCell
      have i1 : (0 : Int) ≤ (j : Int) := by omega
      have i2 : (j : Int) < (n : Int) := by omega
      clear h2 hlen hlc hm hg
      go_wp2
      go_roundw
      case rel => exact ⟨j + 1, by omega, by go_num, by go_num, hset.out, hgs⟩
      case measure => simp [intOf]; omega
    · have HK : Hid (j = n) := by show j = n; omega
      have HM : Mine B wr ao (areasV (marksArea k0 n)) := by
        have hx : l.drop j = [] := List.drop_eq_nil_of_le (by have := HL.out; omega)
        rw [hx, List.append_nil, HK.out] at hm
        exact hm
      clear hm
      go_wp2
      go_ret
      exact ⟨ret_int (by rw [HK.out]), HM, hg⟩
theorem marksArea_get (k0 n j : Nat) (h : j < n) : (marksArea k0 n)[j]? = some (markA k0 j) := by simp [marksArea, h]
set_option maxHeartbeats 1000000 in
theorem heldAreaS_any (ao : Option Addr) (n c : Nat) (k0 : Nat) (w : World) (hm : At w ao (areasV (marksArea k0 n))) (hn : n ≤ 16777216) (hk : k0 ≤ 1099511627776) :
    Calls Try.prog 25 #[.slice ao n c, .int .i64 k0] w fun e w' => e = .returned (.int .i64 ((k0 : Int) + 5 * (n : Int))) ∧ w = w' := by
  go_enter Try.func25, Try.ntmps25
  go_wp2
  go_loop [1, 5] (fun kk i => ∃ j : Nat, j ≤ n ∧ i = .int .i64 j ∧ kk = .int .i64 ((k0 : Int) + 5 * (j : Int))) (fun _ i => n - (intOf i).toNat)
  case atStart => exact ⟨0, Nat.zero_le _, rfl, by go_num⟩
  case round =>
    obtain ⟨j, hj, rfl, rfl⟩ := hrel
    by_cases hjt : j < n
    · obtain ⟨b2, o2, rfl, c0, c1, c2, c3, c4⟩ := At.area hm (marksArea_get k0 n j hjt)
      have e0 : (k0 : Int) + 5 * (j : Int) = (markA k0 j).pane := by unfold markA; simp
      have e1 : (k0 : Int) + 5 * (j : Int) + 1 = (markA k0 j).x := by unfold markA; simp only; omega
      have e2 : (k0 : Int) + 5 * (j : Int) + 1 + 1 = (markA k0 j).y := by unfold markA; simp only; omega
      have e3 : (k0 : Int) + 5 * (j : Int) + 1 + 1 + 1 = (markA k0 j).w := by unfold markA; simp only; omega
      have e4 : (k0 : Int) + 5 * (j : Int) + 1 + 1 + 1 + 1 = (markA k0 j).h := by unfold markA; simp only; omega
      rw [← e0] at c0
      rw [← e1] at c1
      rw [← e2] at c2
      rw [← e3] at c3
      rw [← e4] at c4
      have i1 : (0 : Int) ≤ (j : Int) := by omega
      have i2 : (j : Int) < (n : Int) := by omega
      clear e0 e1 e2 e3 e4 hm
      all_goals
        go_wp2
        go_round
        case rel => exact ⟨j + 1, by omega, by go_num, by go_num⟩
        case measure => simp [intOf]; omega
    · have HK : Hid (j = n) := by show j = n; omega
      go_wp2
      go_ret
      exact ⟨ret_int (by rw [HK.out]), rfl⟩
/-- marking: the slice holds the marks, and nothing outside its block has turned -/
theorem markAreaS_sl (B C : Nat) (ao : Option Addr) (n c : Nat) (l : List AreaV) (k0 : Nat) (w : World) (hm : Sl B C w ao (areasV l)) (hl : l.length = n) (hn : n ≤ 16777216) (hk : k0 ≤ 1099511627776) (hB : B ≤ w.heap.size) :
    Calls Try.prog 24 #[.slice ao n c, .int .i64 k0] w fun e w' => e = .returned (.int .i64 ((k0 : Int) + 5 * (n : Int))) ∧ Sl B C w' ao (areasV (marksArea k0 n)) ∧ Chg B C w w' := by
  cases l with
  | nil =>
    subst hl
    go_enter Try.func24, Try.ntmps24
    go_wp2
    go_loop [1, 5] (fun kk i => i = .int .i64 0 ∧ kk = .int .i64 (k0 : Int)) (fun _ _ => 0)
    case atStart => exact ⟨rfl, rfl⟩
    case round =>
      obtain ⟨rfl, rfl⟩ := hrel
      go_wp2
      go_ret
      exact ⟨ret_int (by simp), .inl rfl, Below.refl _ _, fun _ _ _ => rfl⟩
  | cons x xs =>
    obtain ⟨b, off, rfl, hb1, hb2, hc⟩ := hm.resolve_left (by intro h; have := congrArg List.length h; rw [length_areasV] at this; simp at this)
    refine (markAreaS_any B _ n c (x :: xs) k0 w (.inr ⟨b, off, rfl, hb1, hc⟩) hl hn hk).mono ?_
    rintro e w' ⟨rfl, hm', hg⟩
    have hg' : w.grownBy w' (some b) := hg
    refine ⟨rfl, ?_, below_of_grownBy hg' hB (fun k hk => by cases hk; exact hb1), fun k hk hk' => hg'.block k hk' (by intro e; cases e; omega)⟩
    rcases hm' with h | ⟨b', off', e, h1, h⟩
    · exact .inl h
    · cases e; exact .inr ⟨b, off, rfl, hb1, hb2, h⟩
end Go.Proofs.Ytepamcfaiahmbaa
