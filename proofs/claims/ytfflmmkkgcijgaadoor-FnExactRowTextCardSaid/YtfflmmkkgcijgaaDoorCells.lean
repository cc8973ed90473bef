/-
  Contracts of the helpers of the laws' package at cells: a cell is two numbers. Conditions: bounds on lengths.
-/
import Derived.Test.YtfflmmkkgcijgaaDoorSlices
import Derived.Test.YtfflmmkkgcijgaaDoorIn
import Derived.Deep.RegionHeld3
namespace Go.Proofs.YtfflmmkkgcijgaaDoor
open Go.ChangeShapes Go.WideShapes Go.ChangeAt Go.RowKit
set_option linter.unusedVariables false
set_option linter.unusedSimpArgs false
set_option maxRecDepth 20000

def cellsV (l : List (Int × Int)) : List Value := l.flatMap fun c => [.int .i64 c.1, .int .i64 c.2]
theorem length_cellsV (l : List (Int × Int)) : (cellsV l).length = 2 * l.length := by
  induction l with
  | nil => rfl
  | cons a l ih =>
    rw [show cellsV (a :: l) = [.int .i64 a.1, .int .i64 a.2] ++ cellsV l from rfl, List.length_append, ih, List.length_cons]
    show 2 + 2 * l.length = 2 * (l.length + 1)
    omega
theorem cellsV_get : ∀ (l : List (Int × Int)) (k : Nat) (h : k < l.length), (cellsV l)[2 * k]? = some (.int .i64 l[k].1) ∧ (cellsV l)[2 * k + 1]? = some (.int .i64 l[k].2)
  | a :: l, 0, h => ⟨rfl, rfl⟩
  | a :: l, k + 1, h => by
    have := cellsV_get l k (by simpa using h)
    have e : cellsV (a :: l) = [.int .i64 a.1, .int .i64 a.2] ++ cellsV l := rfl
    rw [e, show 2 * (k + 1) = 2 * k + 2 from by omega, show 2 * k + 2 + 1 = (2 * k + 1) + 2 from by omega, List.getElem?_append_right (by simp), List.getElem?_append_right (by simp)]
    simpa using this
theorem At.cell2 {w : World} {ao : Option Addr} {l : List (Int × Int)} (h : At w ao (cellsV l)) {k : Nat} (hk : k < l.length) :
    ∃ b off, ao = some ⟨b, off, none⟩ ∧ w.cell? ⟨b, off + k * 2, none⟩ = some (.int .i64 l[k].1) ∧ w.cell? ⟨b, off + k * 2 + 1, none⟩ = some (.int .i64 l[k].2) := by
  have hl := length_cellsV l
  obtain ⟨b, off, e, hc⟩ := h.get (by intro h0; have := congrArg List.length h0; rw [hl] at this; have h2 : 2 * l.length = 0 := this; omega)
  obtain ⟨g1, g2⟩ := cellsV_get l k hk
  refine ⟨b, off, e, ?_, ?_⟩
  · rw [show off + k * 2 = off + 2 * k from by omega, hc (2 * k) (by omega), ← g1, List.getElem?_eq_getElem]
  · rw [show off + k * 2 + 1 = off + (2 * k + 1) from by omega, hc (2 * k + 1) (by omega), ← g2, List.getElem?_eq_getElem]

theorem toCell_any (r l : Int) (w : World) :
    Calls Tryd.prog 37 #[.agg #[.int .i64 r, .int .i64 l]] w fun e w' => e = .returned (.agg #[.int .i64 r, .int .i64 l]) ∧ Below w.heap.size w w' := by
  go_enter Tryd.func37, Tryd.ntmps37
  go_wp2
  exact bodyPost_ret (v := .agg #[.int .i64 r, .int .i64 l]) (by simp [results, Tryd.results37, go_sem]) rfl ⟨rfl, (((Below.refl _ _).alloc (Nat.le_refl _) _).alloc (by simp) _).alloc (by simp; omega) _⟩
theorem eqCell_same (r l : Int) (w : World) :
    Calls Tryd.prog 48 #[.agg #[.int .i64 r, .int .i64 l], .agg #[.int .i64 r, .int .i64 l]] w fun e w' => e = .returned (.bool true) ∧ Below w.heap.size w w' := by
  go_enter Tryd.func48, Tryd.ntmps48
  go_wp2
  go_ret
  exact ⟨rfl, ((Below.refl _ _).alloc (Nat.le_refl _) _).alloc (by simp) _⟩
theorem szCellS_any (ao : Option Addr) (n c : Nat) (left : Int) (w : World) (hn : n ≤ maxLen) (h1 : 0 ≤ left) (h2 : left ≤ 1048576) :
    Calls Tryd.prog 15 #[.slice ao n c, .int .i64 left] w fun e w' => ∃ r : Int, e = .returned (.int .i64 r) ∧ (0 ≤ r → n ≤ 1048576 ∧ r ≤ left) ∧ -1 ≤ r ∧ r ≤ 1048576 ∧ w = w' := by
  unfold maxLen at hn
  go_enter Tryd.func15, Tryd.ntmps15
  go_wp2
  all_goals go_ret
  all_goals exact ⟨_, rfl, by omega, by omega, by omega, rfl⟩

set_option maxHeartbeats 1000000 in
theorem eqCellS_same (a b : Option Addr) (n c c' : Nat) (l : List (Int × Int)) (w : World) (ha : At w a (cellsV l)) (hb : At w b (cellsV l)) (hl : l.length = n) (hn : n ≤ 16777216) :
    Calls Tryd.prog 25 #[.slice a n c, .slice b n c'] w fun e w' => e = .returned (.bool true) ∧ Below w.heap.size w w' := by
  have HL := Lib.hid hl
  clear hl
  go_enter Tryd.func25, Tryd.ntmps25
  go_wp2
  go_loopw [5] (fun i wr => ∃ k : Nat, k ≤ n ∧ i = .int .i64 k ∧ Below w.heap.size w wr) (fun i _ => n - (intOf i).toNat)
  case atStart => exact ⟨0, Nat.zero_le _, rfl, Below.refl _ _⟩
  case round =>
    obtain ⟨k, hk, rfl, hbel⟩ := hrel
    by_cases hkt : k < n
    · have hkl : k < l.length := by have := HL.out; omega
      obtain ⟨b1, o1, rfl, c1, c2⟩ := (ha.below hbel (Nat.le_refl _)).cell2 hkl
      obtain ⟨b2, o2, rfl, d1, d2⟩ := (hb.below hbel (Nat.le_refl _)).cell2 hkl
      have i1 : (0 : Int) ≤ (k : Int) := by omega
      have i2 : (k : Int) < (n : Int) := by omega
      clear ha hb
      have l1 : b1 < wr.heap.size := World.block_lt_of_cell? wr _ c1
      have l2 : b2 < wr.heap.size := World.block_lt_of_cell? wr _ d1
      generalize l[k].1 = r at *
      generalize l[k].2 = s at *
      go_wp2
      go_region_held3 (fun w' => w'.cell? ⟨b1, o1 + k * 2, none⟩ = some (.int .i64 r) ∧ w'.cell? ⟨b1, o1 + k * 2 + 1, none⟩ = some (.int .i64 s) ∧ w'.cell? ⟨b2, o2 + k * 2, none⟩ = some (.int .i64 r) ∧ w'.cell? ⟨b2, o2 + k * 2 + 1, none⟩ = some (.int .i64 s)) (first | with_reducible exact hS | exact ⟨c1, c2, d1, d2⟩)
        (first
        | (go_at_call 48; refine (eqCell_same r s _).mono ?_; rintro e w1 ⟨rfl, hb1⟩; have hb2 : Below wr.heap.size wr.drew w1 := hb1; have B1 : Below w.heap.size w w1 := hbel.drew.trans (hb2.mono hbel.size); have hS := (⟨(hb2.cell (p := ⟨b1, o1 + k * 2, none⟩) l1).trans c1, (hb2.cell (p := ⟨b1, o1 + k * 2 + 1, none⟩) l1).trans c2, (hb2.cell (p := ⟨b2, o2 + k * 2, none⟩) l2).trans d1, (hb2.cell (p := ⟨b2, o2 + k * 2 + 1, none⟩) l2).trans d2⟩ : w1.cell? ⟨b1, o1 + k * 2, none⟩ = some (.int .i64 r) ∧ w1.cell? ⟨b1, o1 + k * 2 + 1, none⟩ = some (.int .i64 s) ∧ w1.cell? ⟨b2, o2 + k * 2, none⟩ = some (.int .i64 r) ∧ w1.cell? ⟨b2, o2 + k * 2 + 1, none⟩ = some (.int .i64 s)))
        | fail)
      rename_i hh
      clear hh hS
      go_wp2
      go_roundw
      case rel => exact ⟨k + 1, by omega, by go_num, B1⟩
      case measure => simp [intOf]; omega
    · go_wp2
      go_ret
      exact ⟨rfl, hbel⟩

theorem Tryd.info_cell : (Tryd.prog.info? 62).map (fun i => (i.zero, i.size, i.bytes)) = some (some (Value.agg #[.int .i64 0, .int .i64 0]), 2, 16) := by kernel_rfl
theorem cellsV_append (a b : List (Int × Int)) : cellsV (a ++ b) = cellsV a ++ cellsV b := by simp [cellsV]
theorem cellsV_set : ∀ (l : List (Int × Int)) (k : Nat) (h : k < l.length) (r s : Int), ((cellsV l).set (k * 2) (.int .i64 r)).set (k * 2 + 1) (.int .i64 s) = cellsV (l.set k (r, s))
  | a :: l, 0, h, r, s => rfl
  | a :: l, k + 1, h, r, s => by
    have e : cellsV (a :: l) = .int .i64 a.1 :: .int .i64 a.2 :: cellsV l := rfl
    have e1 : (k + 1) * 2 = (k * 2 + 1) + 1 := by omega
    have e2 : (k + 1) * 2 + 1 = ((k * 2 + 1) + 1) + 1 := by omega
    rw [e, e2, e1]
    simp only [List.set_cons_succ]
    rw [cellsV_set l k (by simpa using h) r s]
    rfl
theorem made_zeros (n : Nat) : (madeCells #[Value.int .i64 0, Value.int .i64 0] (n * 2)).toList = cellsV (List.replicate n (0, 0)) := by
  have h1 : (madeCells #[Value.int .i64 0, Value.int .i64 0] (n * 2)).toList = List.replicate (n * 2) (Value.int .i64 0) := by
    simp only [madeCells, Array.toList_map]
    apply List.ext_getElem (by simp)
    intro i h1 h2
    simp only [List.getElem_map, List.getElem_replicate, Array.getElem_toList, Array.getElem_range]
    have : i % 2 = 0 ∨ i % 2 = 1 := by omega
    rcases this with h | h <;> (show #[Value.int .i64 0, Value.int .i64 0][i % 2]! = _; rw [h]; rfl)
  rw [h1]
  clear h1
  induction n with
  | zero => rfl
  | succ n ih =>
    rw [show (n + 1) * 2 = n * 2 + 1 + 1 from by omega, List.replicate_succ, List.replicate_succ, ih]
    rfl

set_option maxHeartbeats 1000000 in
theorem toCellS_any (a : Option Addr) (n c : Nat) (l : List (Int × Int)) (w : World) (ha : At w a (cellsV l)) (hl : l.length = n) (hn : n ≤ 1048576) :
    Calls Tryd.prog 20 #[.slice a n c] w fun e w' => ∃ ao cap, e = .returned (.slice ao n cap) ∧ n ≤ cap ∧ Mine w.heap.size w' ao (cellsV l) ∧ Below w.heap.size w w' := by
  have HL := Lib.hid hl
  clear hl
  obtain ⟨i0, hi, hz0, hz1, hz2⟩ := info_parts Tryd.info_cell
  go_enter Tryd.func20, Tryd.ntmps20
  go_wp2_with (at_make; refine wpList_make_full _ rfl _ _ 29 rfl w.heap.size 62 i0 (Value.agg #[.int .i64 0, .int .i64 0]) 2 Tryd.underlying29 hi hz0 hz1 .i64 .i64 _ _ n rfl rfl rfl rfl (by rw [hz2]; omega) (by unfold maxLen; omega) (Nat.le_refl _) ?_; intro w0 hown0 hgrow0)
  have hz : Mine w.heap.size w0 (some ⟨w.heap.size, 0, none⟩) (cellsV (l.take 0 ++ List.replicate n (0, 0))) := by
    have := own_at hown0
    rwa [show (madeCells (Value.cells (Value.agg #[.int .i64 0, .int .i64 0])) (n * 2)).toList = cellsV (l.take 0 ++ List.replicate n (0, 0)) from made_zeros n] at this
  have hb0 : Below w.heap.size w w0 := (Below.refl _ _).grown hgrow0 (Nat.le_refl _) (fun _ h => by cases h)
  clear hown0 hgrow0
  go_loopw [4] (fun i wr => ∃ k : Nat, k ≤ n ∧ i = .int .i64 k ∧ Mine w.heap.size wr (some ⟨w.heap.size, 0, none⟩) (cellsV (l.take k ++ List.replicate (n - k) (0, 0))) ∧ Below w.heap.size w wr) (fun i _ => n - (intOf i).toNat)
  case atStart => exact ⟨0, Nat.zero_le _, rfl, hz, hb0⟩
  case round =>
    obtain ⟨k, hk, rfl, hm, hbel⟩ := hrel
    clear hz hb0
    by_cases hkt : k < n
    · have hkl : k < l.length := by have := HL.out; omega
      obtain ⟨b1, o1, rfl, c1, c2⟩ := (ha.below hbel (Nat.le_refl _)).cell2 hkl
      have i1 : (0 : Int) ≤ (k : Int) := by omega
      have i2 : (k : Int) < (n : Int) := by omega
      have HM := Lib.hid hm
      clear hm
      obtain ⟨r, hr⟩ : ∃ r, l[k].1 = r := ⟨_, rfl⟩
      obtain ⟨s, hs⟩ : ∃ s, l[k].2 = s := ⟨_, rfl⟩
      rw [hr] at c1
      rw [hs] at c2
      have HRS : Hid (l[k] = (r, s)) := by show l[k] = (r, s); rw [← hr, ← hs]
      clear hr hs
      go_wp2_with fail
      refine (toCell_any r s _).mono ?_
      rintro e w1 ⟨rfl, hb1⟩
      have B1 : Below w.heap.size w w1 := hbel.trans (hb1.mono hbel.size)
      have hm1 := HM.out.below hb1 (Nat.le_refl _)
      have hlen : (l.take k ++ List.replicate (n - k) ((0 : Int), (0 : Int))).length = n := by have := HL.out; simp; omega
      obtain ⟨b2, o2, he, hB, h2⟩ := hm1.get (by intro e; have := congrArg List.length e; rw [length_cellsV, hlen] at this; have h3 : 2 * n = 0 := this; omega)
      simp only [Option.some.injEq, Addr.mk.injEq, and_true] at he
      obtain ⟨rfl, rfl⟩ := he
      have hl2 : (cellsV (l.take k ++ List.replicate (n - k) ((0 : Int), (0 : Int)))).length = 2 * n := by rw [length_cellsV, hlen]
      obtain ⟨old, p1, f1⟩ : ∃ old, w1.cell? ⟨w.heap.size, k * 2, none⟩ = some old ∧ w1.frozen? ⟨w.heap.size, k * 2, none⟩ = false := ⟨_, by have := (h2 (k * 2) (by omega)).1; simpa only [Nat.zero_add] using this, by have := (h2 (k * 2) (by omega)).2; simpa only [Nat.zero_add] using this⟩
      obtain ⟨old2, p2, f2⟩ : ∃ old, w1.cell? ⟨w.heap.size, k * 2 + 1, none⟩ = some old ∧ w1.frozen? ⟨w.heap.size, k * 2 + 1, none⟩ = false := ⟨_, by have := (h2 (k * 2 + 1) (by omega)).1; simpa only [Nat.zero_add] using this, by have := (h2 (k * 2 + 1) (by omega)).2; simpa only [Nat.zero_add] using this⟩
      have hset : Hid (Mine w.heap.size ((w1.setCell ⟨w.heap.size, k * 2, none⟩ (.int .i64 r)).setCell ⟨w.heap.size, k * 2 + 1, none⟩ (.int .i64 s)) (some ⟨w.heap.size, 0, none⟩) (cellsV (l.take (k + 1) ++ List.replicate (n - (k + 1)) (0, 0)))) := by
        have e : (l.take k ++ List.replicate (n - k) ((0 : Int), (0 : Int))).set k (r, s) = l.take (k + 1) ++ List.replicate (n - (k + 1)) (0, 0) := by
          rw [List.take_succ_eq_append_getElem hkl, show n - k = (n - (k + 1)) + 1 from by omega, List.replicate_succ, HRS.out]
          have hlk : (l.take k).length = k := by simp; omega
          rw [List.set_append_right _ _ (by omega), hlk, Nat.sub_self, List.set_cons_zero]
          simp
        have g1 := Mine.store hB h2 (k * 2) (.int .i64 r)
        have g2 := Mine.store hB g1 (k * 2 + 1) (.int .i64 s)
        rw [cellsV_set _ k (by omega) r s, e] at g2
        refine .inr ⟨w.heap.size, 0, rfl, Nat.le_refl _, ?_⟩
        simpa only [Nat.zero_add] using g2
      have hbs := (B1.setCell (p := ⟨w.heap.size, k * 2, none⟩) (Nat.le_refl _) (.int .i64 r)).setCell (p := ⟨w.heap.size, k * 2 + 1, none⟩) (Nat.le_refl _) (.int .i64 s)
      clear h2 hlen hl2 hm1 hb1 B1
      go_wp2
      go_roundw
      case rel => exact ⟨k + 1, by omega, by go_num, hset.out, hbs⟩
      case measure => simp [intOf]; omega
    · have hkk : k = n := by omega
      have HK : Mine w.heap.size wr (some ⟨w.heap.size, 0, none⟩) (cellsV l) := by
        subst hkk
        have : l.take k = l := List.take_of_length_le (by have := HL.out; omega)
        simpa [this] using hm
      clear hkk hm
      go_wp2
      go_ret
      exact ⟨_, _, rfl, Nat.le_refl _, HK, hbel⟩
end Go.Proofs.YtfflmmkkgcijgaaDoor
