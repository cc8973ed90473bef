/-
  Contracts of toScreen, szScreen and eqScreen of the laws. Conditions: bounds on lengths.
-/
import Derived.Test.YtfflmmkkgcijgaaDoorCells
import Derived.Test.YtfflmmkkgcijgaaDoorFields
namespace Go.Proofs.YtfflmmkkgcijgaaDoor
open Go.ChangeShapes Go.WideShapes Go.ChangeAt Go.RowKit
set_option linter.unusedVariables false
set_option linter.unusedSimpArgs false
set_option maxRecDepth 20000

theorem boxes3 (w : World) (o1 o2 o3 : Obj) : (((w.alloc o1).alloc o2).alloc o3).heap[w.heap.size]? = some o1 ∧ (((w.alloc o1).alloc o2).alloc o3).heap[w.heap.size + 1]? = some o2 ∧ (((w.alloc o1).alloc o2).alloc o3).heap[w.heap.size + 2]? = some o3 := by
  have e1 : (w.alloc o1).heap.size = w.heap.size + 1 := by simp
  have e2 : ((w.alloc o1).alloc o2).heap.size = w.heap.size + 2 := by simp
  refine ⟨?_, ?_, ?_⟩
  · exact (Below.heap_alloc _ _ _ (by omega)).trans ((Below.heap_alloc _ _ _ (by omega)).trans (heap_alloc_new w _))
  · rw [← e1]; exact (Below.heap_alloc _ _ _ (by omega)).trans (heap_alloc_new _ _)
  · rw [← e2]; exact heap_alloc_new _ _
theorem Mine.set_other {B : Nat} {w : World} {a : Option Addr} {xs : List Value} (h : Mine B w a xs) {p : Addr} (hp : p.block < B) (v : Value) : Mine B (w.setCell p v) a xs := by
  rcases h with h | ⟨b, off, e, hB, h⟩
  · exact .inl h
  · refine .inr ⟨b, off, e, hB, fun i hi => ?_⟩
    have hne : p ≠ ⟨b, off + i, none⟩ := by intro h2; subst h2; exact absurd hp (Nat.not_lt.2 hB)
    rw [World.cell?_setCell_other _ _ _ _ hne, World.frozen?_setCell]
    exact h i hi

/-- two slices that lie in two blocks (or one of them is empty) -/
def Apart (a : Option Addr) (xs : List Value) (b : Option Addr) (ys : List Value) : Prop := xs = [] ∨ ys = [] ∨ blk a ≠ blk b
theorem apart_of {w w' : World} {D : Nat} {a b : Option Addr} {xs ys : List Value} (h1 : At w a xs) (h2 : Mine D w' b ys) (hD : w.heap.size ≤ D) : Apart a xs b ys := by
  rcases h1 with h1 | ⟨p, o, rfl, h1⟩
  · exact .inl h1
  rcases h2 with h2 | ⟨q, u, rfl, hq, h2⟩
  · exact .inr (.inl h2)
  cases xs with
  | nil => exact .inl rfl
  | cons x xs =>
    have hlt : p < w.heap.size := World.block_lt_of_cell? w _ (h1 0 (by simp))
    exact .inr (.inr (by simp [blk]; omega))

set_option maxHeartbeats 1000000 in
theorem toScreen_any (wd ht x y lk tp bt sx sy : Int) (ti : ByteArray) (aC : Option Addr) (lenC capC : Nat) (cs : List (Int × Int)) (aH : Option Addr) (lenH capH : Nat) (hs : List ByteArray) (w : World) (hc : At w aC (cellsV cs)) (hlc : cs.length = lenC) (hnc : lenC ≤ 1048576) (hh : At w aH (strs hs)) (hlh : hs.length = lenH) (hnh : lenH ≤ 16777216) :
    Calls Tryd.prog 7 #[.agg #[.int .i64 wd, .int .i64 ht, .int .i64 x, .int .i64 y, .int .i64 lk, .int .i64 tp, .int .i64 bt, .int .i64 sx, .int .i64 sy, .string ti, .slice aC lenC capC, .slice aH lenH capH]] w fun e w' => ∃ a' c' b' d', e = .returned (.agg #[.int .i64 wd, .int .i64 ht, .int .i64 x, .int .i64 y, .int .i64 lk, .int .i64 tp, .int .i64 bt, .int .i64 sx, .int .i64 sy, .string ti, .slice a' lenC c', .slice b' lenH d']) ∧ lenC ≤ c' ∧ Apart a' (cellsV cs) b' (strs hs) ∧ Mine w.heap.size w' a' (cellsV cs) ∧ Mine w.heap.size w' b' (strs hs) ∧ Below w.heap.size w w' := by
  have hb0 : ∀ o1 o2 o3, Below w.heap.size w (((w.alloc o1).alloc o2).alloc o3) := fun o1 o2 o3 => (((Below.refl _ _).alloc (Nat.le_refl _) _).alloc (by simp) _).alloc (by simp; omega) _
  have HLC := Lib.hid hlc
  have HLH := Lib.hid hlh
  clear hlc hlh
  go_enter Tryd.func7, Tryd.ntmps7
  go_wp2_with fail
  refine (toCellS_any aC lenC capC cs _ (hc.below (hb0 _ _ _) (Nat.le_refl _)) HLC.out hnc).mono ?_
  rintro e w1 ⟨a1, c1, rfl, hcap1, hm1, hb1⟩
  have HM := Lib.hid (hm1.mono (B' := w.heap.size + 3) (by simp <;> omega))
  obtain ⟨g1, g2, g3⟩ := boxes3 w (.cells #[.int .i64 wd, .int .i64 ht, .int .i64 x, .int .i64 y, .int .i64 lk, .int .i64 tp, .int .i64 bt, .int .i64 sx, .int .i64 sy, .string ti, .slice aC lenC capC, .slice aH lenH capH] 25) (.cells #[.int .i64 0, .int .i64 0, .int .i64 0, .int .i64 0, .int .i64 0, .int .i64 0, .int .i64 0, .int .i64 0, .int .i64 0, .string ⟨#[]⟩, .slice none 0 0, .slice none 0 0] 31) (.cells #[.int .i64 wd, .int .i64 ht, .int .i64 x, .int .i64 y, .int .i64 lk, .int .i64 tp, .int .i64 bt, .int .i64 sx, .int .i64 sy, .string ti, .slice none 0 0, .slice none 0 0] 31)
  have X1 := Lib.hid (box_below g1 hb1 (by simp <;> omega))
  have Y1 := Lib.hid (box_below g2 hb1 (by simp <;> omega))
  have Z1 := Lib.hid (box_below g3 hb1 (by simp <;> omega))
  have x1 := box_cells X1.out
  have z1 := box_cells Z1.out
  have fz := box_free Z1.out
  have hz1 : w.heap.size + 3 ≤ w1.heap.size := by have := hb1.size; simp at this; omega
  have B1 : Below w.heap.size w w1 := (hb0 _ _ _).trans (hb1.mono (by simp <;> omega))
  have B1' : Below w.heap.size w (w1.setCell ⟨w.heap.size + 2, 10, none⟩ (.slice a1 lenC c1)) := B1.setCell (by dsimp only; omega) _
  have HM1 := Lib.hid (HM.out.set_other (p := ⟨w.heap.size + 2, 10, none⟩) (by dsimp only; omega) (.slice a1 lenC c1))
  have X2 : Hid ((w1.setCell ⟨w.heap.size + 2, 10, none⟩ (.slice a1 lenC c1)).heap[w.heap.size]? = some (.cells #[.int .i64 wd, .int .i64 ht, .int .i64 x, .int .i64 y, .int .i64 lk, .int .i64 tp, .int .i64 bt, .int .i64 sx, .int .i64 sy, .string ti, .slice aC lenC capC, .slice aH lenH capH] 25)) := (Below.heap_setCell _ _ _ _ (by dsimp only; omega)).trans X1.out
  have Y2 : Hid ((w1.setCell ⟨w.heap.size + 2, 10, none⟩ (.slice a1 lenC c1)).heap[w.heap.size + 1]? = some (.cells #[.int .i64 0, .int .i64 0, .int .i64 0, .int .i64 0, .int .i64 0, .int .i64 0, .int .i64 0, .int .i64 0, .int .i64 0, .string ⟨#[]⟩, .slice none 0 0, .slice none 0 0] 31)) := (Below.heap_setCell _ _ _ _ (by dsimp only; omega)).trans Y1.out
  have Z2 : Hid ((w1.setCell ⟨w.heap.size + 2, 10, none⟩ (.slice a1 lenC c1)).heap[w.heap.size + 2]? = some (.cells #[.int .i64 wd, .int .i64 ht, .int .i64 x, .int .i64 y, .int .i64 lk, .int .i64 tp, .int .i64 bt, .int .i64 sx, .int .i64 sy, .string ti, .slice a1 lenC c1, .slice none 0 0] 31)) := by
    show _ = _; rw [heap_setCell_same w1 (w.heap.size + 2) 10 _ _ _ Z1.out]; simp
  clear g1 g2 g3 hm1 hb1 hc B1 HM
  go_wp2_with fail
  refine (toStringS_any aH lenH capH hs _ (hh.below B1' (Nat.le_refl _)) HLH.out hnh).mono ?_
  rintro e w2 ⟨b1, d1, rfl, hm2, hb2⟩
  have hz2 : w.heap.size + 3 ≤ w2.heap.size := by have := hb2.size; simp at this; omega
  have HM2 := Lib.hid (hm2.mono (B' := w.heap.size + 3) (by simp <;> omega))
  have HN2 := Lib.hid (HM1.out.below hb2 (Nat.le_refl _))
  have HAP := Lib.hid (apart_of HM1.out.at hm2 (Nat.le_refl _))
  have x2 := box_cells (box_below X2.out hb2 (by simp <;> omega))
  have y2 := box_cells (box_below Y2.out hb2 (by simp <;> omega))
  have z2 := box_cells (box_below Z2.out hb2 (by simp <;> omega))
  have fy := box_free (box_below Y2.out hb2 (by simp <;> omega))
  have fz2 := box_free (box_below Z2.out hb2 (by simp <;> omega))
  have B2 : Below w.heap.size w w2 := B1'.trans (hb2.mono (by simp <;> omega))
  clear x1 z1 fz hm2 hb2 hh B1'
  go_wp2
  clear x2 z2 fy fz2
  exact bodyPost_ret (v := .agg #[.int .i64 wd, .int .i64 ht, .int .i64 x, .int .i64 y, .int .i64 lk, .int .i64 tp, .int .i64 bt, .int .i64 sx, .int .i64 sy, .string ti, .slice a1 lenC c1, .slice b1 lenH d1]) (by simp [results, Tryd.results7, y2, go_sem]) rfl ⟨a1, c1, b1, d1, rfl, hcap1, HAP.out, ((((((((((((((HN2.out).set_other (by dsimp only; omega) _).set_other (by dsimp only; omega) _).set_other (by dsimp only; omega) _).set_other (by dsimp only; omega) _).set_other (by dsimp only; omega) _).set_other (by dsimp only; omega) _).set_other (by dsimp only; omega) _).set_other (by dsimp only; omega) _).set_other (by dsimp only; omega) _).set_other (by dsimp only; omega) _).set_other (by dsimp only; omega) _).set_other (by dsimp only; omega) _).set_other (by dsimp only; omega) _).mono (by omega), ((((((((((((((HM2.out).set_other (by dsimp only; omega) _).set_other (by dsimp only; omega) _).set_other (by dsimp only; omega) _).set_other (by dsimp only; omega) _).set_other (by dsimp only; omega) _).set_other (by dsimp only; omega) _).set_other (by dsimp only; omega) _).set_other (by dsimp only; omega) _).set_other (by dsimp only; omega) _).set_other (by dsimp only; omega) _).set_other (by dsimp only; omega) _).set_other (by dsimp only; omega) _).set_other (by dsimp only; omega) _).mono (by omega), (((((((((((((B2).setCell (by dsimp only; omega) _).setCell (by dsimp only; omega) _).setCell (by dsimp only; omega) _).setCell (by dsimp only; omega) _).setCell (by dsimp only; omega) _).setCell (by dsimp only; omega) _).setCell (by dsimp only; omega) _).setCell (by dsimp only; omega) _).setCell (by dsimp only; omega) _).setCell (by dsimp only; omega) _).setCell (by dsimp only; omega) _).setCell (by dsimp only; omega) _).setCell (by dsimp only; omega) _⟩
theorem szStringS_upto (ao : Option Addr) (n c : Nat) (zs : List ByteArray) (left : Nat) (w : World) (ha : At w ao (strs zs)) (hl : zs.length = n) (hn : n ≤ maxLen) (hz : ∀ s ∈ zs, s.size ≤ maxLen) (hle : left ≤ 1048576) :
    Calls Tryd.prog 16 #[.slice ao n c, .int .i64 left] w fun e w' => ∃ r : Int, e = .returned (.int .i64 r) ∧ (0 ≤ r → n ≤ left) ∧ -1 ≤ r ∧ r ≤ 1048576 ∧ w = w' := by
  unfold maxLen at hn
  have HL := Lib.hid hl
  have HZ := Lib.hid hz
  clear hl hz
  by_cases hbig : left < n
  · go_enter Tryd.func16, Tryd.ntmps16
    go_wp2
    go_ret
    exact ⟨_, rfl, by intro h; exact absurd h (by decide), by decide, by decide, rfl⟩
  go_enter Tryd.func16, Tryd.ntmps16
  obtain ⟨d, hd⟩ : ∃ d : Nat, (left : Int) - (n : Int) = (d : Int) ∧ d ≤ 1048576 := ⟨left - n, by omega, by omega⟩
  have HD := Lib.hid hd.1
  have hd2 := hd.2
  clear hd
  go_wp2
  go_loop [1, 5] (fun l i => ∃ k : Nat, k ≤ n ∧ i = .int .i64 k ∧ ∃ r : Nat, r ≤ 1048576 ∧ l = .int .i64 r) (fun _ i => n - (intOf i).toNat)
  case atStart => exact ⟨0, Nat.zero_le _, rfl, d, by omega, by rw [HD.out]⟩
  case round =>
    obtain ⟨k, hk, rfl, r, hr, rfl⟩ := hrel
    by_cases hlt : k < n
    · have hkz : k < zs.length := by have := HL.out; omega
      obtain ⟨b, off, rfl, hc⟩ := ha.get (strs_ne hkz)
      have hcell : w.cell? ⟨b, off + k, none⟩ = some (.string zs[k]) := by rw [hc k (by simpa [strs] using hkz), strs_get _ _ _ hkz]
      have hsz : zs[k].size ≤ 9223372036854775807 := HZ.out _ (List.getElem_mem hkz)
      clear hc ha
      by_cases hq : r < zs[k].size
      · go_wp2
        go_ret
        exact ⟨_, rfl, by intro h; exact absurd h (by decide), by decide, by decide, rfl⟩
      · obtain ⟨q, hq2⟩ : ∃ q : Nat, (r : Int) - (zs[k].size : Int) = (q : Int) ∧ q ≤ 1048576 := ⟨r - zs[k].size, by omega, by omega⟩
        have HQ := Lib.hid hq2.1
        have hq3 := hq2.2
        clear hq2
        go_wp2
        go_round
        case rel => exact ⟨k + 1, by omega, by go_num, q, hq3, by rw [HQ.out]⟩
        case measure => simp [intOf]; omega
    · go_wp2
      go_ret
      exact ⟨_, rfl, fun _ => by omega, by omega, by omega, rfl⟩

theorem szScreen_any (wd ht x y lk tp bt sx sy : Int) (ti : ByteArray) (aC : Option Addr) (lenC capC : Nat) (aH : Option Addr) (lenH capH : Nat) (hs : List ByteArray) (w : World) (hti : ti.size ≤ maxLen) (hnc : lenC ≤ maxLen) (hh : At w aH (strs hs)) (hlh : hs.length = lenH) (hnh : lenH ≤ maxLen) (hz : ∀ s ∈ hs, s.size ≤ maxLen) :
    Calls Tryd.prog 5 #[.agg #[.int .i64 wd, .int .i64 ht, .int .i64 x, .int .i64 y, .int .i64 lk, .int .i64 tp, .int .i64 bt, .int .i64 sx, .int .i64 sy, .string ti, .slice aC lenC capC, .slice aH lenH capH], .int .i64 1048576] w fun e w' => ∃ r : Int, e = .returned (.int .i64 r) ∧ (0 ≤ r → lenC ≤ 1048576 ∧ lenH ≤ 1048576 ∧ ti.size ≤ 1048576) ∧ Below w.heap.size w w' := by
  have hb0 : ∀ o1, Below w.heap.size w (w.alloc o1) := fun o1 => (Below.refl _ _).alloc (Nat.le_refl _) _
  have HH := Lib.hid (hh.below (hb0 (.cells #[.int .i64 wd, .int .i64 ht, .int .i64 x, .int .i64 y, .int .i64 lk, .int .i64 tp, .int .i64 bt, .int .i64 sx, .int .i64 sy, .string ti, .slice aC lenC capC, .slice aH lenH capH] 25)) (Nat.le_refl _))
  have HB0 := Lib.hid hb0
  have HL := Lib.hid hlh
  have HZ := Lib.hid hz
  have HC := Lib.hid hnc
  have HN := Lib.hid hnh
  clear hb0 hlh hz hnc hnh hh
  unfold maxLen at hti
  by_cases hbig : 1048576 < ti.size
  · go_enter Tryd.func5, Tryd.ntmps5
    go_wp2
    go_ret
    exact ⟨_, rfl, by intro h; exact absurd h (by decide), HB0.out _⟩
  obtain ⟨d, hd⟩ : ∃ d : Nat, (1048576 : Int) - (ti.size : Int) = (d : Int) ∧ d ≤ 1048576 := ⟨1048576 - ti.size, by omega, by omega⟩
  have HD := Lib.hid hd.1
  have hd2 := hd.2
  clear hd
  go_enter Tryd.func5, Tryd.ntmps5
  go_wp2_with fail
  refine (szCellS_any aC lenC capC _ _ HC.out (by omega) (by omega)).mono ?_
  rintro e w1 ⟨r, rfl, hr, hr1, hr2, rfl⟩
  have HR := Lib.hid hr
  clear hr
  rcases Int.lt_or_le r 0 with hneg | hpos
  · go_wp2
    go_ret
    exact ⟨_, rfl, by intro h; exact absurd h (by decide), HB0.out _⟩
  obtain ⟨q, rfl⟩ : ∃ q : Nat, r = (q : Int) := ⟨r.toNat, by omega⟩
  go_wp2_with fail
  refine (szStringS_upto aH lenH capH hs q _ HH.out HL.out HN.out HZ.out (by omega)).mono ?_
  rintro e w1 ⟨r, rfl, hr, hr3, hr4, rfl⟩
  have HR2 := Lib.hid hr
  clear hr
  go_wp2
  all_goals go_ret
  all_goals refine ⟨_, rfl, ?_, HB0.out _⟩
  all_goals (intro h; have h1 := HR.out; have h2 := HR2.out; have h3 := HD.out; omega)

theorem eqScreen_same (wd ht x y lk tp bt sx sy : Int) (ti : ByteArray) (aC bC : Option Addr) (lenC capC capC' : Nat) (cs : List (Int × Int)) (aH bH : Option Addr) (lenH capH capH' : Nat) (hs : List ByteArray) (w : World) (ha : At w aC (cellsV cs)) (hb : At w bC (cellsV cs)) (hlc : cs.length = lenC) (hnc : lenC ≤ 16777216) (hha : At w aH (strs hs)) (hhb : At w bH (strs hs)) (hlh : hs.length = lenH) (hnh : lenH ≤ maxLen) :
    Calls Tryd.prog 9 #[.agg #[.int .i64 wd, .int .i64 ht, .int .i64 x, .int .i64 y, .int .i64 lk, .int .i64 tp, .int .i64 bt, .int .i64 sx, .int .i64 sy, .string ti, .slice aC lenC capC, .slice aH lenH capH], .agg #[.int .i64 wd, .int .i64 ht, .int .i64 x, .int .i64 y, .int .i64 lk, .int .i64 tp, .int .i64 bt, .int .i64 sx, .int .i64 sy, .string ti, .slice bC lenC capC', .slice bH lenH capH']] w fun e w' => e = .returned (.bool true) ∧ Below w.heap.size w w' := by
  have hb0 : ∀ o1 o2, Below w.heap.size w ((w.alloc o1).alloc o2) := fun o1 o2 => ((Below.refl _ _).alloc (Nat.le_refl _) _).alloc (by simp) _
  have g1 : ∀ o1 o2, ((w.alloc o1).alloc o2).heap[w.heap.size]? = some o1 := fun o1 o2 => (Below.heap_alloc _ _ _ (by simp)).trans (heap_alloc_new w _)
  have g2 : ∀ o1 o2, ((w.alloc o1).alloc o2).heap[w.heap.size + 1]? = some o2 := fun o1 o2 => by
    have e1 : (w.alloc o1).heap.size = w.heap.size + 1 := by simp
    rw [← e1]; exact heap_alloc_new _ _
  have G1 := Lib.hid g1
  have G2 := Lib.hid g2
  have HA := Lib.hid (fun o1 o2 => ha.below (hb0 o1 o2) (Nat.le_refl _))
  have HB := Lib.hid (fun o1 o2 => hb.below (hb0 o1 o2) (Nat.le_refl _))
  have HHA := Lib.hid (fun o1 o2 => hha.below (hb0 o1 o2) (Nat.le_refl _))
  have HHB := Lib.hid (fun o1 o2 => hhb.below (hb0 o1 o2) (Nat.le_refl _))
  have H0 := Lib.hid hb0
  have HL := Lib.hid hlc
  have HLH := Lib.hid hlh
  clear g1 g2 hb0 ha hb hha hhb hlc hlh
  go_enter Tryd.func9, Tryd.ntmps9
  go_wp2_with fail
  refine (eqCellS_same aC bC lenC capC capC' cs _ (HA.out _ _) (HB.out _ _) HL.out hnc).mono ?_
  rintro e w1 ⟨rfl, hb1⟩
  have X1 := Lib.hid (box_below (G1.out (.cells #[.int .i64 wd, .int .i64 ht, .int .i64 x, .int .i64 y, .int .i64 lk, .int .i64 tp, .int .i64 bt, .int .i64 sx, .int .i64 sy, .string ti, .slice aC lenC capC, .slice aH lenH capH] 31) (.cells #[.int .i64 wd, .int .i64 ht, .int .i64 x, .int .i64 y, .int .i64 lk, .int .i64 tp, .int .i64 bt, .int .i64 sx, .int .i64 sy, .string ti, .slice bC lenC capC', .slice bH lenH capH'] 31)) hb1 (by simp <;> omega))
  have X2 := Lib.hid (box_below (G2.out (.cells #[.int .i64 wd, .int .i64 ht, .int .i64 x, .int .i64 y, .int .i64 lk, .int .i64 tp, .int .i64 bt, .int .i64 sx, .int .i64 sy, .string ti, .slice aC lenC capC, .slice aH lenH capH] 31) (.cells #[.int .i64 wd, .int .i64 ht, .int .i64 x, .int .i64 y, .int .i64 lk, .int .i64 tp, .int .i64 bt, .int .i64 sx, .int .i64 sy, .string ti, .slice bC lenC capC', .slice bH lenH capH'] 31)) hb1 (by simp <;> omega))
  have x1 := box_cells X1.out
  have x2 := box_cells X2.out
  have B1 : Below w.heap.size w w1 := (H0.out _ _).trans (hb1.mono (by simp <;> omega))
  have HA2 := Lib.hid ((HHA.out _ _).below hb1 (Nat.le_refl _))
  have HB2 := Lib.hid ((HHB.out _ _).below hb1 (Nat.le_refl _))
  clear hb1
  go_wp2_with fail
  refine (eqStringS_same aH bH lenH capH capH' hs _ HA2.out HB2.out HLH.out hnh).mono ?_
  rintro e w2 ⟨rfl, hb2⟩
  have B2 : Below w.heap.size w w2 := B1.trans (hb2.mono B1.size)
  clear hb2 x1 x2 HA2 HB2
  go_wp2
  go_ret
  exact ⟨rfl, B2⟩
end Go.Proofs.YtfflmmkkgcijgaaDoor
