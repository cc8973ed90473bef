/-
  Contracts of markScreen and heldScreen of the laws' package. Conditions: bounds on lengths.
-/
import Derived.Test.YtfdodbkopbmjeaaCellMark
namespace Go.Proofs.Ytfdodbkopbmjeaa
open Go.ChangeShapes Go.WideShapes Go.ChangeAt Go.RowKit
set_option linter.unusedVariables false
set_option linter.unusedSimpArgs false
set_option maxRecDepth 20000

theorem sl_grown {B C : Nat} {w w' : World} {ao : Option Addr} {xs : List Value} {row : Option Nat} (h : Sl B C w ao xs) (hg : w.grownBy w' row) (hne : xs = [] ∨ blk ao ≠ row) : Sl B C w' ao xs := by
  rcases hne with hne | hne
  · exact .inl hne
  rcases h with h | ⟨b, off, rfl, hB, hC, h⟩
  · exact .inl h
  · refine .inr ⟨b, off, rfl, hB, hC, fun i hi => ?_⟩
    have hb := hg.block b (World.block_lt_of_cell? w _ (h i hi).1) (by simpa [blk] using hne)
    rw [World.cell?_of_block (w := w) hb, World.frozen?_of_block (w := w) hb]
    exact h i hi
theorem chg_trans {B C : Nat} {a b c : World} (h : Chg B C a b) (k : Chg B C b c) : Chg B C a c :=
  ⟨h.below.trans k.below, fun j hj hl => (k.above j hj (Nat.lt_of_lt_of_le hl h.below.size)).trans (h.above j hj hl)⟩
theorem markCellS_ap (B C : Nat) (ao : Option Addr) (n c : Nat) (l : List (Int × Int)) (k0 k1 : Nat) (bo : Option Addr) (ys : List Value) (w : World) (hm : Sl B C w ao (cellsV l)) (hb : Sl B C w bo ys) (hap : Apart ao (cellsV l) bo ys) (hl : l.length = n) (hn : n ≤ 16777216) (hk : k0 ≤ 1099511627776) (hk1 : k1 = k0 + 2 * n) (hB : B ≤ w.heap.size) :
    Calls Try.prog 23 #[.slice ao n c, .int .i64 k0] w fun e w' => e = .returned (.int .i64 (k1 : Int)) ∧ Sl B C w' ao (cellsV (marksCell k0 n)) ∧ Sl B C w' bo ys ∧ Chg B C w w' := by
  have hk2 : (k1 : Int) = (k0 : Int) + 2 * (n : Int) := by omega
  rw [hk2]
  cases l with
  | nil =>
    subst hl
    clear hk2 hk1
    go_enter Try.func23, Try.ntmps23
    go_wp2
    go_loop [1, 5] (fun kk i => i = .int .i64 0 ∧ kk = .int .i64 (k0 : Int)) (fun _ _ => 0)
    case atStart => exact ⟨rfl, rfl⟩
    case round =>
      obtain ⟨rfl, rfl⟩ := hrel
      go_wp2
      go_ret
      exact ⟨ret_int (by simp), .inl rfl, hb, Below.refl _ _, fun _ _ _ => rfl⟩
  | cons x xs =>
    obtain ⟨b, off, rfl, hb1, hb2, hc⟩ := hm.resolve_left (by intro h; have := congrArg List.length h; rw [length_cellsV] at this; simp at this)
    refine (markCellS_any B _ n c (x :: xs) k0 w (.inr ⟨b, off, rfl, hb1, hc⟩) hl hn hk).mono ?_
    rintro e w' ⟨rfl, hm', hg⟩
    have hg' : w.grownBy w' (some b) := hg
    have hap2 : ys = [] ∨ blk bo ≠ some b := by
      rcases hap with h | h | h
      · have := congrArg List.length h; rw [length_cellsV] at this; simp at this
      · exact .inl h
      · exact .inr (fun e => h (by rw [e]; rfl))
    refine ⟨rfl, ?_, sl_grown hb hg' hap2, below_of_grownBy hg' hB (fun k hk => by cases hk; exact hb1), fun k hk hk' => hg'.block k hk' (by intro e; cases e; omega)⟩
    rcases hm' with h | ⟨b', off', e, h1, h⟩
    · exact .inl h
    · cases e; exact .inr ⟨b, off, rfl, hb1, hb2, h⟩
theorem markStringS_nil (ao : Option Addr) (c : Nat) (k0 : Nat) (w : World) :
    Calls Try.prog 24 #[.slice ao 0 c, .int .i64 k0] w fun e w' => e = .returned (.int .i64 (k0 : Int)) ∧ w = w' := by
  go_enter Try.func24, Try.ntmps24
  go_wp2
  go_loop [1, 5] (fun kk i => i = .int .i64 0 ∧ kk = .int .i64 (k0 : Int)) (fun _ _ => 0)
  case atStart => exact ⟨rfl, rfl⟩
  case round =>
    obtain ⟨rfl, rfl⟩ := hrel
    go_wp2
    go_ret
    exact ⟨rfl, rfl⟩
theorem markStringS_ap (B C : Nat) (ao : Option Addr) (n c : Nat) (xs : List Value) (k0 k1 : Nat) (bo : Option Addr) (ys : List Value) (w : World) (hm : Sl B C w ao xs) (hb : Sl B C w bo ys) (hap : Apart bo ys ao xs) (hl : xs.length = n) (hn : n ≤ 16777216) (h1 : 1 ≤ k0) (hk : k0 ≤ 549755813888) (hk1 : k1 = k0 + n) (hB : B ≤ w.heap.size) :
    Calls Try.prog 24 #[.slice ao n c, .int .i64 k0] w fun e w' => e = .returned (.int .i64 (k1 : Int)) ∧ Sl B C w' ao (strs (marksString k0 n)) ∧ Sl B C w' bo ys ∧ Chg B C w w' := by
  cases xs with
  | nil =>
    subst hl
    have hk2 : k1 = k0 := by simpa using hk1
    subst hk2
    refine (markStringS_nil ao c _ w).mono ?_
    rintro e w' ⟨rfl, rfl⟩
    exact ⟨rfl, .inl rfl, hb, Below.refl _ _, fun _ _ _ => rfl⟩
  | cons x xs =>
    have hk2 : (k1 : Int) = (k0 : Int) + (n : Int) := by omega
    rw [hk2]
    obtain ⟨b, off, rfl, hb1, hb2, hc⟩ := hm.resolve_left (by simp)
    refine (markStringS_any B _ n c (x :: xs) k0 w (.inr ⟨b, off, rfl, hb1, hc⟩) hl hn h1 hk).mono ?_
    rintro e w' ⟨rfl, hm', hg⟩
    have hg' : w.grownBy w' (some b) := hg
    have hap2 : ys = [] ∨ blk bo ≠ some b := by
      rcases hap with h | h | h
      · exact .inl h
      · cases h
      · exact .inr h
    refine ⟨rfl, ?_, sl_grown hb hg' hap2, below_of_grownBy hg' hB (fun k hk => by cases hk; exact hb1), fun k hk hk' => hg'.block k hk' (by intro e; cases e; omega)⟩
    rcases hm' with h | ⟨b', off', e, h1, h⟩
    · exact .inl h
    · cases e; exact .inr ⟨b, off, rfl, hb1, hb2, h⟩
theorem apart_len {a b : Option Addr} {xs xs' ys : List Value} (h : Apart a xs b ys) (hl : xs'.length = xs.length) : Apart a xs' b ys := by
  rcases h with h | h | h
  · subst h; exact .inl (List.length_eq_zero_iff.1 hl)
  · exact .inr (.inl h)
  · exact .inr (.inr h)

attribute [local irreducible] wpList
set_option maxHeartbeats 4000000 in
theorem markScreen_sl (wd ht x y lk tp bt sx sy : Int) (ti : ByteArray) (B C : Nat) (aC : Option Addr) (lenC capC : Nat) (cs : List (Int × Int)) (aH : Option Addr) (lenH capH : Nat) (hs : List ByteArray) (w : World) (h1 : Sl B C w aC (cellsV cs)) (h2 : Sl B C w aH (strs hs)) (hap : Apart aC (cellsV cs) aH (strs hs)) (hlc : cs.length = lenC) (hlh : hs.length = lenH) (hn : lenC ≤ 1048576) (hn2 : lenH ≤ 1048576) (k k2 : Nat) (hk2 : k2 = 1 + 2 * lenC + lenH) (hB : B ≤ w.heap.size) (hC : C ≤ w.heap.size) :
    Calls Try.prog 9 #[.agg #[.int .i64 wd, .int .i64 ht, .int .i64 x, .int .i64 y, .int .i64 lk, .int .i64 tp, .int .i64 bt, .int .i64 sx, .int .i64 sy, .string ti, .slice aC lenC capC, .slice aH lenH capH], .int .i64 1] w fun e w' => e = .returned (.int .i64 (k2 : Int)) ∧ Sl B C w' aC (cellsV (marksCell 1 lenC)) ∧ Sl B C w' aH (strs (marksString (1 + 2 * lenC) lenH)) ∧ Chg B C w w' := by
  have hb0 : Below w.heap.size w (w.alloc (.cells #[.int .i64 wd, .int .i64 ht, .int .i64 x, .int .i64 y, .int .i64 lk, .int .i64 tp, .int .i64 bt, .int .i64 sx, .int .i64 sy, .string ti, .slice aC lenC capC, .slice aH lenH capH] 29)) := (Below.refl _ _).alloc (Nat.le_refl _) _
  have hc0 : Chg B C w (w.alloc (.cells #[.int .i64 wd, .int .i64 ht, .int .i64 x, .int .i64 y, .int .i64 lk, .int .i64 tp, .int .i64 bt, .int .i64 sx, .int .i64 sy, .string ti, .slice aC lenC capC, .slice aH lenH capH] 29)) := ⟨hb0.mono hB, fun k _ hk => Below.heap_alloc _ _ _ hk⟩
  have H1 := Lib.hid (h1.below hb0 hC)
  have H2 := Lib.hid (h2.below hb0 hC)
  have HC0 := Lib.hid hc0
  have HL := Lib.hid hlc
  have HLH := Lib.hid hlh
  have HAP := Lib.hid hap
  clear h1 h2 hb0 hc0 hlc hlh hap
  obtain ⟨k1, hk1⟩ : ∃ k1, k1 = 1 + 2 * lenC := ⟨_, rfl⟩
  rw [← hk1]
  have HK1 := Lib.hid hk1
  have HK2 := Lib.hid hk2
  clear hk1 hk2
  go_enter Try.func9, Try.ntmps9
  go_wp2_with fail
  refine (markCellS_ap B C aC lenC capC cs 1 k1 aH (strs hs) _ H1.out H2.out HAP.out HL.out (by omega) (by omega) HK1.out (by simp; omega)).mono ?_
  rintro e w1 ⟨rfl, h1, h2, hc1⟩
  have hz1 : w.heap.size + 1 ≤ w1.heap.size := by have := hc1.below.size; simpa using this
  have X1 : w1.heap[w.heap.size]? = some (.cells #[.int .i64 wd, .int .i64 ht, .int .i64 x, .int .i64 y, .int .i64 lk, .int .i64 tp, .int .i64 bt, .int .i64 sx, .int .i64 sy, .string ti, .slice aC lenC capC, .slice aH lenH capH] 29) := (hc1.above w.heap.size hC (by simp)).trans (box_new w _)
  have x1 := box_cells X1
  have hap1 : Apart aC (cellsV (marksCell 1 lenC)) aH (strs hs) := apart_len HAP.out (by rw [length_cellsV, length_cellsV, length_marksCell, HL.out])
  have HC1 := Lib.hid (chg_trans HC0.out hc1)
  clear X1 hc1 H1 H2
  go_wp2_with fail
  refine (markStringS_ap B C aH lenH capH (strs hs) k1 k2 aC (cellsV (marksCell 1 lenC)) _ h2 h1 hap1 (by simp [strs]; exact HLH.out) (by omega) (by have := HK1.out; omega) (by have := HK1.out; omega) (by have := HK1.out; have := HK2.out; omega) (by omega)).mono ?_
  rintro e w2 ⟨rfl, g1, g2, hc2⟩
  have HC2 := Lib.hid (chg_trans HC1.out hc2)
  clear x1 h1 h2 hc2
  go_wp2
  go_ret
  exact ⟨rfl, g2, g1, HC2.out⟩
theorem heldScreen_any (wd ht x y lk tp bt sx sy : Int) (ti : ByteArray) (aC : Option Addr) (lenC capC : Nat) (aH : Option Addr) (lenH capH : Nat) (w : World) (h1 : At w aC (cellsV (marksCell 1 lenC))) (h2 : At w aH (strs (marksString (1 + 2 * lenC) lenH))) (hn : lenC ≤ 1048576) (hn2 : lenH ≤ 1048576) (k2 : Nat) (hk2 : k2 = 1 + 2 * lenC + lenH) :
    Calls Try.prog 10 #[.agg #[.int .i64 wd, .int .i64 ht, .int .i64 x, .int .i64 y, .int .i64 lk, .int .i64 tp, .int .i64 bt, .int .i64 sx, .int .i64 sy, .string ti, .slice aC lenC capC, .slice aH lenH capH], .int .i64 1] w fun e w' => e = .returned (.int .i64 (k2 : Int)) ∧ Below w.heap.size w w' := by
  have hb0 : Below w.heap.size w (w.alloc (.cells #[.int .i64 wd, .int .i64 ht, .int .i64 x, .int .i64 y, .int .i64 lk, .int .i64 tp, .int .i64 bt, .int .i64 sx, .int .i64 sy, .string ti, .slice aC lenC capC, .slice aH lenH capH] 29)) := (Below.refl _ _).alloc (Nat.le_refl _) _
  have H1 := Lib.hid (h1.below hb0 (Nat.le_refl _))
  have H2 := Lib.hid (h2.below hb0 (Nat.le_refl _))
  clear h1 h2
  have e1 : (1 : Int) + 2 * (lenC : Int) = ((1 + 2 * lenC : Nat) : Int) := by omega
  go_enter Try.func10, Try.ntmps10
  go_wp2_with fail
  refine (heldCellS_any aC lenC capC 1 _ H1.out (by omega) (by omega)).mono ?_
  rintro e w1 ⟨rfl, rfl⟩
  rw [show ((1 : Nat) : Int) = 1 from rfl, e1]
  generalize hk1 : 1 + 2 * lenC = k1 at *
  clear e1
  go_wp2_with fail
  refine (heldStringS_any aH lenH capH k1 _ H2.out (by omega) (by omega) (by omega)).mono ?_
  rintro e w2 ⟨rfl, hb2⟩
  have e2 : Hid ((k1 : Int) + (lenH : Int) = (k2 : Int)) := by show _ = _; omega
  go_wp2
  go_ret
  exact ⟨ret_int (by rw [e2.out]), hb0.trans (hb2.mono (by simp))⟩
end Go.Proofs.Ytfdodbkopbmjeaa
