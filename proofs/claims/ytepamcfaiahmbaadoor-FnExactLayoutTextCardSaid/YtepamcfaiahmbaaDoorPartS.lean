/-
  Contracts of the helpers of the laws' package at layouts' parts. Conditions: bounds on lengths.
-/
import Derived.Test.YtepamcfaiahmbaaDoorLayPart
import Derived.Test.YtepamcfaiahmbaaDoorSlices
import Derived.StillTailTactics
namespace Go.Proofs.YtepamcfaiahmbaaDoor
open Go.ChangeShapes Go.WideShapes Go.ChangeAt Go.RowKit
set_option linter.unusedVariables false
set_option linter.unusedSimpArgs false
set_option maxRecDepth 100000

theorem toPart_any (pane : Int) (rows : Bool) (size left right : Int) (w : World) :
    Calls Tryd.prog 40 #[.agg #[.int .i64 pane, .bool rows, .int .i64 size, .int .i64 left, .int .i64 right]] w fun e w' => e = .returned (.agg #[.int .i64 pane, .bool rows, .int .i64 size, .int .i64 left, .int .i64 right]) ∧ Below w.heap.size w w' := by
  go_enter Tryd.func40, Tryd.ntmps40
  go_wp2
  exact bodyPost_ret (v := .agg #[.int .i64 pane, .bool rows, .int .i64 size, .int .i64 left, .int .i64 right]) (by simp [results, Tryd.results40, go_sem]) rfl ⟨rfl, (((Below.refl _ _).alloc (Nat.le_refl _) _).alloc (by simp) _).alloc (by simp; omega) _⟩
theorem eqPart_same (pane : Int) (rows : Bool) (size left right : Int) (w : World) :
    Calls Tryd.prog 45 #[.agg #[.int .i64 pane, .bool rows, .int .i64 size, .int .i64 left, .int .i64 right], .agg #[.int .i64 pane, .bool rows, .int .i64 size, .int .i64 left, .int .i64 right]] w fun e w' => e = .returned (.bool true) ∧ Below w.heap.size w w' := by
  cases rows
  all_goals
    go_enter Tryd.func45, Tryd.ntmps45
    go_wp2
    go_ret
    exact ⟨rfl, ((Below.refl _ _).alloc (Nat.le_refl _) _).alloc (by simp) _⟩
theorem szPartS_any (ao : Option Addr) (n c : Nat) (left : Int) (w : World) (hn : n ≤ maxLen) (h1 : 0 ≤ left) (h2 : left ≤ 1048576) :
    Calls Tryd.prog 18 #[.slice ao n c, .int .i64 left] w fun e w' => ∃ r : Int, e = .returned (.int .i64 r) ∧ (0 ≤ r → n ≤ 1048576 ∧ r ≤ left) ∧ -1 ≤ r ∧ r ≤ 1048576 ∧ w = w' := by
  unfold maxLen at hn
  go_enter Tryd.func18, Tryd.ntmps18
  go_wp2
  all_goals go_ret
  all_goals exact ⟨_, rfl, by omega, by omega, by omega, rfl⟩

set_option maxHeartbeats 1000000 in
theorem eqPartS_same (a b : Option Addr) (n c c' : Nat) (l : List PartV) (w : World) (ha : At w a (partsV l)) (hb : At w b (partsV l)) (hl : l.length = n) (hn : n ≤ 16777216) :
    Calls Tryd.prog 25 #[.slice a n c, .slice b n c'] w fun e w' => e = .returned (.bool true) ∧ Below w.heap.size w w' := by
  have HL := Lib.hid hl
  clear hl
  go_enter Tryd.func25, Tryd.ntmps25
  go_wp2
  go_loopw [5] (fun i wr => ∃ k : Nat, k ≤ n ∧ i = .int .i64 k ∧ Below w.heap.size w wr) (fun i _ => n - (intOf i).toNat)
  case atStart => exact ⟨0, Nat.zero_le _, rfl, Below.refl _ _⟩
  case round =>
    obtain ⟨k, hk, rfl, hbel⟩ := hrel
    by_cases hkt : k < n
    · obtain ⟨p, hp⟩ : ∃ p, l[k]? = some p := ⟨l[k]'(by have := HL.out; omega), List.getElem?_eq_getElem _⟩
      obtain ⟨b1, o1, rfl, c0, c1, c2, c3, c4⟩ := (ha.below hbel (Nat.le_refl _)).part hp
      obtain ⟨b2, o2, rfl, d0, d1, d2, d3, d4⟩ := (hb.below hbel (Nat.le_refl _)).part hp
      obtain ⟨pane, rows, size, left, right⟩ := p
      simp only at c0 c1 c2 c3 c4 d0 d1 d2 d3 d4
      have i1 : (0 : Int) ≤ (k : Int) := by omega
      have i2 : (k : Int) < (n : Int) := by omega
      clear ha hb hp
      go_wp2
      refine wp_region_still_tail 8 (by kernel_rfl) (by kernel_rfl) ?_
      simp only [List.take_succ_cons, List.take_zero, List.drop_succ_cons, List.drop_zero]
      repeat still_step
      refine wpStill_nil ?_
      change wpList _ _ _ _ _ wr.drew
      go_wp2_with fail
      refine (eqPart_same pane rows size left right _).mono ?_
      rintro e w1 ⟨rfl, hb1⟩
      have hb2 : Below wr.heap.size wr.drew w1 := hb1
      have B1 : Below w.heap.size w w1 := hbel.drew.trans (hb2.mono hbel.size)
      clear hb1 hb2 c0 c1 c2 c3 c4 d0 d1 d2 d3 d4
      go_wp2
      go_roundw
      case rel => exact ⟨k + 1, by omega, by go_num, B1⟩
      case measure => simp [intOf]; omega
    · go_wp2
      go_ret
      exact ⟨rfl, hbel⟩

theorem Tryd.info_part : (Tryd.prog.info? 67).map (fun i => (i.zero, i.size, i.bytes)) = some (some (Value.agg #[Value.int .i64 0, Value.bool false, Value.int .i64 0, Value.int .i64 0, Value.int .i64 0]), 5, 40) := by kernel_rfl
theorem partsV_set : ∀ (l : List PartV) (k : Nat) (h : k < l.length) (p : PartV), ((((((partsV l).set (k * 5) (.int .i64 p.pane)).set (k * 5 + 1) (.bool p.rows)).set (k * 5 + 2) (.int .i64 p.size)).set (k * 5 + 3) (.int .i64 p.left)).set (k * 5 + 4) (.int .i64 p.right)) = partsV (l.set k p)
  | a :: l, 0, h, p => rfl
  | a :: l, k + 1, h, p => by
    have e : partsV (a :: l) = .int .i64 a.pane :: .bool a.rows :: .int .i64 a.size :: .int .i64 a.left :: .int .i64 a.right :: partsV l := rfl
    have e0 : (k + 1) * 5 = (k * 5) + 1 + 1 + 1 + 1 + 1 := by omega
    have e1 : (k + 1) * 5 + 1 = (k * 5 + 1) + 1 + 1 + 1 + 1 + 1 := by omega
    have e2 : (k + 1) * 5 + 2 = (k * 5 + 2) + 1 + 1 + 1 + 1 + 1 := by omega
    have e3 : (k + 1) * 5 + 3 = (k * 5 + 3) + 1 + 1 + 1 + 1 + 1 := by omega
    have e4 : (k + 1) * 5 + 4 = (k * 5 + 4) + 1 + 1 + 1 + 1 + 1 := by omega
    rw [e, e4, e3, e2, e1, e0]
    simp only [List.set_cons_succ]
    rw [partsV_set l k (by simpa using h) p]
    rfl
theorem made_parts (n : Nat) : (madeCells #[Value.int .i64 0, Value.bool false, Value.int .i64 0, Value.int .i64 0, Value.int .i64 0] (n * 5)).toList = partsV (List.replicate n (⟨0, false, 0, 0, 0⟩ : PartV)) := by
  apply List.ext_getElem
  · rw [length_partsV]; simp [madeCells]
  intro i h1 h2
  have hi : i < n * 5 := by rw [length_partsV] at h2; simpa using h2
  have hg := partsV_get (List.replicate n (⟨0, false, 0, 0, 0⟩ : PartV)) (i / 5) (⟨0, false, 0, 0, 0⟩ : PartV) (by rw [List.getElem?_replicate, if_pos (by omega)]) (i % 5) (by omega)
  rw [show i / 5 * 5 + i % 5 = i from by omega, List.getElem?_eq_getElem h2] at hg
  simp only [madeCells, Array.toList_map, List.getElem_map, Array.getElem_toList, Array.getElem_range]
  have : i % 5 = 0 ∨ i % 5 = 1 ∨ i % 5 = 2 ∨ i % 5 = 3 ∨ i % 5 = 4 := by omega
  rcases this with h | h | h | h | h <;> (rw [h] at hg; show #[Value.int .i64 0, Value.bool false, Value.int .i64 0, Value.int .i64 0, Value.int .i64 0][i % 5]! = _; rw [h]; exact (Option.some.inj hg).symm)

set_option maxHeartbeats 2000000 in
theorem toPartS_any (a : Option Addr) (n c : Nat) (l : List PartV) (w : World) (ha : At w a (partsV l)) (hl : l.length = n) (hn : n ≤ 1048576) :
    Calls Tryd.prog 22 #[.slice a n c] w fun e w' => ∃ ao cap, e = .returned (.slice ao n cap) ∧ n ≤ cap ∧ Mine w.heap.size w' ao (partsV l) ∧ Below w.heap.size w w' := by
  have HL := Lib.hid hl
  clear hl
  obtain ⟨i0, hi, hz0, hz1, hz2⟩ := info_parts Tryd.info_part
  go_enter Tryd.func22, Tryd.ntmps22
  go_wp2_with (at_make; refine wpList_make_full _ rfl _ _ 28 rfl w.heap.size 67 i0 (Value.agg #[Value.int .i64 0, Value.bool false, Value.int .i64 0, Value.int .i64 0, Value.int .i64 0]) 5 Tryd.underlying28 hi hz0 hz1 .i64 .i64 _ _ n rfl rfl rfl rfl (by rw [hz2]; omega) (by unfold maxLen; omega) (Nat.le_refl _) ?_; intro w0 hown0 hgrow0)
  have hz : Mine w.heap.size w0 (some ⟨w.heap.size, 0, none⟩) (partsV (l.take 0 ++ List.replicate n (⟨0, false, 0, 0, 0⟩ : PartV))) := by
    have := own_at hown0
    rwa [show (madeCells (Value.cells (Value.agg #[Value.int .i64 0, Value.bool false, Value.int .i64 0, Value.int .i64 0, Value.int .i64 0])) (n * 5)).toList = partsV (l.take 0 ++ List.replicate n (⟨0, false, 0, 0, 0⟩ : PartV)) from made_parts n] at this
  have hb0 : Below w.heap.size w w0 := (Below.refl _ _).grown hgrow0 (Nat.le_refl _) (fun _ h => by cases h)
  clear hown0 hgrow0
  go_loopw [4] (fun i wr => ∃ k : Nat, k ≤ n ∧ i = .int .i64 k ∧ Mine w.heap.size wr (some ⟨w.heap.size, 0, none⟩) (partsV (l.take k ++ List.replicate (n - k) (⟨0, false, 0, 0, 0⟩ : PartV))) ∧ Below w.heap.size w wr) (fun i _ => n - (intOf i).toNat)
  case atStart => exact ⟨0, Nat.zero_le _, rfl, hz, hb0⟩
  case round =>
    obtain ⟨k, hk, rfl, hm, hbel⟩ := hrel
    clear hz hb0
    by_cases hkt : k < n
    · have hkl : k < l.length := by have := HL.out; omega
      obtain ⟨p, hp⟩ : ∃ p, l[k] = p := ⟨_, rfl⟩
      obtain ⟨b1, o1, rfl, c0, c1, c2, c3, c4⟩ := At.part (p := p) (k := k) (ha.below hbel (Nat.le_refl _)) (by rw [List.getElem?_eq_getElem hkl, hp])
      have i1 : (0 : Int) ≤ (k : Int) := by omega
      have i2 : (k : Int) < (n : Int) := by omega
      have HM := Lib.hid hm
      have HRS := Lib.hid hp
      clear hm hp
      obtain ⟨pane, rows, size, left, right⟩ := p
      simp only at c0 c1 c2 c3 c4
      go_wp2_with fail
      refine (toPart_any pane rows size left right _).mono ?_
      rintro e w1 ⟨rfl, hb1⟩
      have B1 : Below w.heap.size w w1 := hbel.trans (hb1.mono hbel.size)
      have hm1 := HM.out.below hb1 (Nat.le_refl _)
      have hlen : (l.take k ++ List.replicate (n - k) (⟨0, false, 0, 0, 0⟩ : PartV)).length = n := by have := HL.out; simp; omega
      obtain ⟨b2, o2, he, hB, h2⟩ := hm1.get (by intro e; have := congrArg List.length e; rw [length_partsV, hlen] at this; have h3 : n * 5 = 0 := this; omega)
      simp only [Option.some.injEq, Addr.mk.injEq, and_true] at he
      obtain ⟨rfl, rfl⟩ := he
      have hl2 : (partsV (l.take k ++ List.replicate (n - k) (⟨0, false, 0, 0, 0⟩ : PartV))).length = n * 5 := by rw [length_partsV, hlen]
      obtain ⟨old0, p0, f0⟩ : ∃ old, w1.cell? ⟨w.heap.size, k * 5, none⟩ = some old ∧ w1.frozen? ⟨w.heap.size, k * 5, none⟩ = false := ⟨_, by have := (h2 (k * 5) (by omega)).1; simpa only [Nat.zero_add] using this, by have := (h2 (k * 5) (by omega)).2; simpa only [Nat.zero_add] using this⟩
      obtain ⟨old1, p1, f1⟩ : ∃ old, w1.cell? ⟨w.heap.size, k * 5 + 1, none⟩ = some old ∧ w1.frozen? ⟨w.heap.size, k * 5 + 1, none⟩ = false := ⟨_, by have := (h2 (k * 5 + 1) (by omega)).1; simpa only [Nat.zero_add] using this, by have := (h2 (k * 5 + 1) (by omega)).2; simpa only [Nat.zero_add] using this⟩
      obtain ⟨old2, p2, f2⟩ : ∃ old, w1.cell? ⟨w.heap.size, k * 5 + 2, none⟩ = some old ∧ w1.frozen? ⟨w.heap.size, k * 5 + 2, none⟩ = false := ⟨_, by have := (h2 (k * 5 + 2) (by omega)).1; simpa only [Nat.zero_add] using this, by have := (h2 (k * 5 + 2) (by omega)).2; simpa only [Nat.zero_add] using this⟩
      obtain ⟨old3, p3, f3⟩ : ∃ old, w1.cell? ⟨w.heap.size, k * 5 + 3, none⟩ = some old ∧ w1.frozen? ⟨w.heap.size, k * 5 + 3, none⟩ = false := ⟨_, by have := (h2 (k * 5 + 3) (by omega)).1; simpa only [Nat.zero_add] using this, by have := (h2 (k * 5 + 3) (by omega)).2; simpa only [Nat.zero_add] using this⟩
      obtain ⟨old4, p4, f4⟩ : ∃ old, w1.cell? ⟨w.heap.size, k * 5 + 4, none⟩ = some old ∧ w1.frozen? ⟨w.heap.size, k * 5 + 4, none⟩ = false := ⟨_, by have := (h2 (k * 5 + 4) (by omega)).1; simpa only [Nat.zero_add] using this, by have := (h2 (k * 5 + 4) (by omega)).2; simpa only [Nat.zero_add] using this⟩
      have hset : Hid (Mine w.heap.size (((((w1.setCell ⟨w.heap.size, k * 5, none⟩ (.int .i64 pane)).setCell ⟨w.heap.size, k * 5 + 1, none⟩ (.bool rows)).setCell ⟨w.heap.size, k * 5 + 2, none⟩ (.int .i64 size)).setCell ⟨w.heap.size, k * 5 + 3, none⟩ (.int .i64 left)).setCell ⟨w.heap.size, k * 5 + 4, none⟩ (.int .i64 right)) (some ⟨w.heap.size, 0, none⟩) (partsV (l.take (k + 1) ++ List.replicate (n - (k + 1)) (⟨0, false, 0, 0, 0⟩ : PartV)))) := by
        have e : (l.take k ++ List.replicate (n - k) (⟨0, false, 0, 0, 0⟩ : PartV)).set k ⟨pane, rows, size, left, right⟩ = l.take (k + 1) ++ List.replicate (n - (k + 1)) (⟨0, false, 0, 0, 0⟩ : PartV) := by
          rw [List.take_succ_eq_append_getElem hkl, show n - k = (n - (k + 1)) + 1 from by omega, List.replicate_succ, HRS.out]
          have hlk : (l.take k).length = k := by simp; omega
          rw [List.set_append_right _ _ (by omega), hlk, Nat.sub_self, List.set_cons_zero]
          simp
        have g0 := Mine.store hB h2 (k * 5) (.int .i64 pane)
        have g1 := Mine.store hB g0 (k * 5 + 1) (.bool rows)
        have g2 := Mine.store hB g1 (k * 5 + 2) (.int .i64 size)
        have g3 := Mine.store hB g2 (k * 5 + 3) (.int .i64 left)
        have g4 := Mine.store hB g3 (k * 5 + 4) (.int .i64 right)
        rw [partsV_set _ k (by omega) ⟨pane, rows, size, left, right⟩, e] at g4
        refine .inr ⟨w.heap.size, 0, rfl, Nat.le_refl _, ?_⟩
        simpa only [Nat.zero_add] using g4
      have hbs : Below w.heap.size w (((((w1.setCell ⟨w.heap.size, k * 5, none⟩ (.int .i64 pane)).setCell ⟨w.heap.size, k * 5 + 1, none⟩ (.bool rows)).setCell ⟨w.heap.size, k * 5 + 2, none⟩ (.int .i64 size)).setCell ⟨w.heap.size, k * 5 + 3, none⟩ (.int .i64 left)).setCell ⟨w.heap.size, k * 5 + 4, none⟩ (.int .i64 right)) := ((((B1.setCell (Nat.le_refl _) _).setCell (Nat.le_refl _) _).setCell (Nat.le_refl _) _).setCell (Nat.le_refl _) _).setCell (Nat.le_refl _) _
      clear h2 hlen hl2 hm1 hb1 B1
      go_wp2
      go_roundw
      case rel => exact ⟨k + 1, by omega, by go_num, hset.out, hbs⟩
      case measure => simp [intOf]; omega
    · have hkk : k = n := by omega
      have HK : Mine w.heap.size wr (some ⟨w.heap.size, 0, none⟩) (partsV l) := by
        subst hkk
        have : l.take k = l := List.take_of_length_le (by have := HL.out; omega)
        simpa [this] using hm
      clear hkk hm
      go_wp2
      go_ret
      exact ⟨_, _, rfl, Nat.le_refl _, HK, hbel⟩
end Go.Proofs.YtepamcfaiahmbaaDoor
