/-
  Contracts of CodeWord and CodeOf of the given program and of its reference, in every world in which the table of words stands. No condition.
-/
import Derived.Test.YtbnlbfljgchcfaaDoorBase
namespace Go.Proofs.YtbnlbfljgchcfaaDoor
open Go.ChangeShapes Go.WideShapes Go.ChangeAt Go.RowKit
set_option linter.unusedVariables false

def cwList : List ByteArray := [{ data := #[111, 107] }, { data := #[98, 97, 100] }, { data := #[108, 111, 110, 103] }, { data := #[102, 111, 114, 109] }, { data := #[114, 97, 110, 103, 101] }, { data := #[110, 111, 110, 101] }, { data := #[109, 97, 110, 121] }, { data := #[102, 117, 108, 108] }, { data := #[115, 117, 109] }, { data := #[116, 119, 105, 99, 101] }, { data := #[115, 109, 97, 108, 108] }, { data := #[115, 116, 97, 108, 101] }, { data := #[108, 101, 97, 100, 101, 114] }, { data := #[100, 111, 119, 110] }, { data := #[97, 103, 97, 105, 110] }, { data := #[108, 97, 116, 101] }, { data := #[116, 111, 107, 101, 110] }, { data := #[108, 97, 115, 116] }, { data := #[108, 111, 115, 116] }, { data := #[118, 105, 101, 119] }]
def cw (n : Nat) : ByteArray := cwList.getD n ByteArray.empty

def cwR (n : Int) : ByteArray := if 0 ≤ n ∧ n ≤ 19 then cw n.toNat else ByteArray.empty

theorem within_any (n lo hi : Int) (w : World) :
    Calls Tryd.prog 9 #[.int .i64 n, .int .i64 lo, .int .i64 hi] w fun e w' => e = .returned (.bool (decide (lo ≤ n) && decide (n ≤ hi))) ∧ w = w' := by
  go_enter Tryd.func9, Tryd.ntmps9
  go_wp2
  all_goals go_ret
  all_goals exact ⟨ret_bool (by rw [Bool.eq_iff_iff]; simp; omega), rfl⟩

theorem lit_at (n : Nat) (h : n < 20) : ([Value.string { data := #[111, 107] }, Value.string { data := #[98, 97, 100] }, Value.string { data := #[108, 111, 110, 103] }, Value.string { data := #[102, 111, 114, 109] }, Value.string { data := #[114, 97, 110, 103, 101] }, Value.string { data := #[110, 111, 110, 101] }, Value.string { data := #[109, 97, 110, 121] }, Value.string { data := #[102, 117, 108, 108] }, Value.string { data := #[115, 117, 109] }, Value.string { data := #[116, 119, 105, 99, 101] }, Value.string { data := #[115, 109, 97, 108, 108] }, Value.string { data := #[115, 116, 97, 108, 101] }, Value.string { data := #[108, 101, 97, 100, 101, 114] }, Value.string { data := #[100, 111, 119, 110] }, Value.string { data := #[97, 103, 97, 105, 110] }, Value.string { data := #[108, 97, 116, 101] }, Value.string { data := #[116, 111, 107, 101, 110] }, Value.string { data := #[108, 97, 115, 116] }, Value.string { data := #[108, 111, 115, 116] }, Value.string { data := #[118, 105, 101, 119] }] : List Value)[n]'(by exact h) = .string (cw n) := by
  match n, h with
  | 0, _ => rfl
  | 1, _ => rfl
  | 2, _ => rfl
  | 3, _ => rfl
  | 4, _ => rfl
  | 5, _ => rfl
  | 6, _ => rfl
  | 7, _ => rfl
  | 8, _ => rfl
  | 9, _ => rfl
  | 10, _ => rfl
  | 11, _ => rfl
  | 12, _ => rfl
  | 13, _ => rfl
  | 14, _ => rfl
  | 15, _ => rfl
  | 16, _ => rfl
  | 17, _ => rfl
  | 18, _ => rfl
  | 19, _ => rfl
  | n + 20, h => exact absurd h (by omega)

theorem specCodeWord_any (n : Int) (w : World) (hn : (Lit.int .i64 n).wf = true) :
    Calls Tryd.prog 5 #[.int .i64 n] w fun e w' => e = .returned (.string (cwR n)) ∧ Below w.heap.size w w' := by
  by_cases h : 0 ≤ n ∧ n ≤ 19
  · obtain ⟨k, rfl⟩ := Int.eq_ofNat_of_zero_le h.1
    have hk : k < 20 := by omega
    rw [show cwR (k : Int) = cw k from if_pos h]
    obtain ⟨h1, h2⟩ := h
    go_enter Tryd.func5, Tryd.ntmps5
    go_wp2
    go_ret
    exact ⟨congrArg _ (lit_at k hk), (Below.refl _ _).alloc (Nat.le_refl _) _⟩
  · rw [show cwR n = ByteArray.empty from if_neg h]
    go_enter Tryd.func5, Tryd.ntmps5
    go_wp2
    all_goals try (exfalso; omega)
    all_goals go_ret
    all_goals exact ⟨rfl, (Below.refl _ _).alloc (Nat.le_refl _) _⟩

def Words (w : World) : Prop := ∀ i, i < 20 → w.cell? ⟨0, i, none⟩ = some (.string (cw i))
theorem Words.below {w w' : World} (h : Words w) (hb : Below w.heap.size w w') : Words w' := fun i hi => by
  rw [hb.cell (p := ⟨0, i, none⟩) (World.block_lt_of_cell? w _ (h i hi))]
  exact h i hi

theorem implCodeWord_any (n : Int) (w : World) (hn : (Lit.int .i64 n).wf = true) (hW : Words w) :
    Calls Tryd.prog 6 #[.int .i64 n] w fun e w' => e = .returned (.string (cwR n)) ∧ w = w' := by
  by_cases h : 0 ≤ n ∧ n ≤ 19
  · obtain ⟨k, rfl⟩ := Int.eq_ofNat_of_zero_le h.1
    have hk : k < 20 := by omega
    have hc := hW k hk
    have hd : (decide ((0 : Int) ≤ (k : Int)) && decide ((k : Int) ≤ 19)) = true := by simp; omega
    rw [show cwR (k : Int) = cw k from if_pos h]
    obtain ⟨h1, h2⟩ := h
    go_enter Tryd.func6, Tryd.ntmps6
    go_wp2_with (go_at_call 9; refine (within_any _ _ _ _).mono ?_; rw [hd]; rintro e w' ⟨rfl, rfl⟩)
    go_ret
    exact ⟨rfl, rfl⟩
  · rw [show cwR n = ByteArray.empty from if_neg h]
    have hd : (decide ((0 : Int) ≤ n) && decide (n ≤ 19)) = false := by
      rw [Bool.eq_false_iff]; simpa using h
    go_enter Tryd.func6, Tryd.ntmps6
    go_wp2_with (go_at_call 9; refine (within_any _ _ _ _).mono ?_; rw [hd]; rintro e w' ⟨rfl, rfl⟩)
    go_ret
    exact ⟨rfl, rfl⟩

theorem walk_FnExactCodeWord (n : Int) (hn : (Lit.int .i64 n).wf = true) (w : World) (hW : Words w) :
    Calls Tryd.prog 3 #[.int .i64 n] w fun e w' => e = .returned (.bool true) ∧ Below w.heap.size w w' := by
  go_enter Tryd.func3, Tryd.ntmps3
  go_wp2_with (first | (go_at_call 5; refine (specCodeWord_any _ _ hn).mono ?_; rintro e w1 ⟨rfl, hb1⟩) | (go_at_call 6; refine (implCodeWord_any _ _ hn (hW.below hb1)).mono ?_; rintro e w1 ⟨rfl, rfl⟩))
  go_ret
  exact ⟨rfl, hb1⟩

theorem cw_get (k : Nat) (h : k < cwList.length) : cwList[k] = cw k := by simp [cw, List.getD, List.getElem?_eq_getElem h]

def sameB (s x : ByteArray) : Bool := s.toList == x.toList
def idxW (s : ByteArray) : Int := idxFrom (sameB s) 0 cwList

theorem index_any (s : ByteArray) (b : Nat) (w : World) (hc : ∀ i, i < 20 → w.cell? ⟨b, i, none⟩ = some (.string (cw i))) :
    Calls Tryd.prog 10 #[.slice (some ⟨b, 0, none⟩) 20 20, .string s] w fun e w' => e = .returned (.int .i64 (idxW s)) ∧ w = w' := by
  have HC := Lib.hid hc
  clear hc
  go_enter Tryd.func10, Tryd.ntmps10
  go_wp2
  go_loop [8] (fun i => ∃ k : Nat, k ≤ 20 ∧ i = .int .i64 k ∧ Hid (∀ j, j < k → sameB s (cw j) = false)) (fun i => 20 - (intOf i).toNat)
  case atStart => exact ⟨0, Nat.zero_le _, rfl, fun j h => absurd h (by omega)⟩
  case round =>
    obtain ⟨k, hk, rfl, hall⟩ := hrel
    by_cases hlt : k < 20
    · have hcell := HC.out k hlt
      cases hp : sameB s (cw k)
      · have hp' : (s.toList == (cw k).toList) = false := hp
        go_wp2
        go_round
        case rel => exact ⟨k + 1, by omega, by go_num, fun j h => if e : j = k then (by subst e; exact hp) else hall.out j (by omega)⟩
        case measure => simp [intOf]; omega
      · have hp' : (s.toList == (cw k).toList) = true := hp
        go_wp2
        go_ret
        exact ⟨ret_int (by
          have := idxFrom_at (sameB s) cwList 0 k (by exact hlt) (fun j hj => by rw [cw_get]; exact hall.out j hj) ((congrArg (sameB s) (cw_get k hlt)).trans hp)
          rw [idxW, this]; simp), rfl⟩
    · go_wp2
      go_ret
      exact ⟨ret_int (by rw [idxW, idxFrom_none (sameB s) cwList 0 (fun x hx => by
        obtain ⟨j, hj, rfl⟩ := List.getElem_of_mem hx
        have hj' : j < 20 := hj
        have := hall.out j (by omega)
        simpa [cw, List.getD, List.getElem?_eq_getElem hj] using this)]), rfl⟩

theorem implCodeOf_any (s : ByteArray) (w : World) (hW : Words w) :
    Calls Tryd.prog 8 #[.string s] w fun e w' => e = .returned (.int .i64 (idxW s)) ∧ w = w' := by
  have HI := Lib.hid (index_any s 0 w hW)
  clear hW
  go_enter Tryd.func8, Tryd.ntmps8
  go_wp2_with (go_at_call 10; refine HI.out.mono ?_; rintro e w1 ⟨rfl, rfl⟩)
  go_ret
  exact ⟨rfl, rfl⟩

theorem specCodeOf_any (s : ByteArray) (w : World) :
    Calls Tryd.prog 7 #[.string s] w fun e w' => e = .returned (.int .i64 (idxW s)) ∧ Below w.heap.size w w' := by
  go_enter Tryd.func7, Tryd.ntmps7
  go_wp2
  go_loopw [3] (fun i wr => ∃ k : Nat, k ≤ 20 ∧ i = .int .i64 k ∧ Hid (∀ j, j < k → sameB s (cw j) = false) ∧ Below w.heap.size w wr) (fun i _ => 20 - (intOf i).toNat)
  case atStart => exact ⟨0, Nat.zero_le _, rfl, fun j h => absurd h (by omega), Below.refl _ _⟩
  case round =>
    obtain ⟨k, hk, rfl, hall, hb⟩ := hrel
    by_cases hlt : k < 20
    · have hr : cwR (k : Int) = cw k := if_pos (by omega)
      have hwf : (Lit.int .i64 (k : Int)).wf = true := WalkArith.wf_i64 (by omega)
      have hsy : ((cw k).toList == s.toList) = sameB s (cw k) := by unfold sameB; exact by rw [Bool.eq_iff_iff]; simp; exact eq_comm
      cases hp : sameB s (cw k)
      · rw [hp] at hsy
        go_wp2_with (go_at_call 5; refine (specCodeWord_any _ _ hwf).mono ?_; rw [hr]; rintro e w1 ⟨rfl, hb1⟩)
        go_roundw
        case rel => exact ⟨k + 1, by omega, by go_num, fun j h => if e : j = k then (by subst e; exact hp) else hall.out j (by omega), hb.trans (hb1.mono hb.size)⟩
        case measure => simp [intOf]; omega
      · rw [hp] at hsy
        go_wp2_with (go_at_call 5; refine (specCodeWord_any _ _ hwf).mono ?_; rw [hr]; rintro e w1 ⟨rfl, hb1⟩)
        go_ret
        exact ⟨ret_int (by
          have := idxFrom_at (sameB s) cwList 0 k (by exact hlt) (fun j hj => by rw [cw_get]; exact hall.out j hj) ((congrArg (sameB s) (cw_get k hlt)).trans hp)
          rw [idxW, this]; simp), hb.trans (hb1.mono hb.size)⟩
    · go_wp2
      go_ret
      exact ⟨ret_int (by rw [idxW, idxFrom_none (sameB s) cwList 0 (fun x hx => by
        obtain ⟨j, hj, rfl⟩ := List.getElem_of_mem hx
        have hj' : j < 20 := hj
        have := hall.out j (by omega)
        simpa [cw, List.getD, List.getElem?_eq_getElem hj] using this)]), hb⟩

theorem walk_FnExactCodeOf (s : ByteArray) (hs : s.size ≤ maxLen) (w : World) (hW : Words w) :
    Calls Tryd.prog 4 #[.string s] w fun e w' => e = .returned (.bool true) ∧ Below w.heap.size w w' := by
  unfold maxLen at hs
  go_enter Tryd.func4, Tryd.ntmps4
  go_wp2_with (first | (go_at_call 7; refine (specCodeOf_any _ _).mono ?_; rintro e w1 ⟨rfl, hb1⟩) | (go_at_call 8; refine (implCodeOf_any _ _ (hW.below hb1)).mono ?_; rintro e w1 ⟨rfl, rfl⟩))
  · go_ret
    exact ⟨rfl, Below.refl _ _⟩
  · go_ret
    exact ⟨rfl, hb1⟩
end Go.Proofs.YtbnlbfljgchcfaaDoor
