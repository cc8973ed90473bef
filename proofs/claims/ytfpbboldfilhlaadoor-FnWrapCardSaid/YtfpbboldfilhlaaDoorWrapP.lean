/-
  Plain words of a text that is put on a blank screen from row to row: what stands in its cells, and what goes at the top. No program in sight. No condition.
-/
import Derived.Test.YtfpbboldfilhlaaDoorApPlain
namespace Go.Proofs.YtfpbboldfilhlaaDoor
open Go.RowKit
set_option linter.unusedVariables false
set_option linter.unusedSimpArgs false
/-- the cell of place j, k letters being put -/
def cellOf (T : List UInt8) (j k : Nat) : Int × Int := if j < k then (((T.getD j 0).toNat : Int), 0) else blC
/-- the cells, g rows having gone -/
def gridR (T : List UInt8) (W H g k : Nat) : List (Int × Int) := (List.range (W * H)).map fun i => cellOf T (g * W + i) k
def textR (T : List UInt8) (W r : Nat) : List UInt8 := (T.drop (r * W)).take W
def histR (T : List UInt8) (W g : Nat) : List ByteArray := (List.range g).map fun r => ⟨(textR T W r).toArray⟩
theorem length_gridR (T : List UInt8) (W H g k : Nat) : (gridR T W H g k).length = W * H := by simp [gridR]
theorem gridR_get {T : List UInt8} {W H g k i : Nat} (h : i < W * H) : (gridR T W H g k)[i]? = some (cellOf T (g * W + i) k) := by simp [gridR, h]
/-- a letter -/
def okT (T : List UInt8) : Prop := ∀ b ∈ T, 33 ≤ b.toNat ∧ b.toNat ≤ 126
theorem okT.get {T : List UInt8} (h : okT T) {k : Nat} (hk : k < T.length) : 33 ≤ (T.getD k 0).toNat ∧ (T.getD k 0).toNat ≤ 126 := by
  rw [List.getD_eq_getElem?_getD, List.getElem?_eq_getElem hk]; exact h _ (List.getElem_mem hk)
theorem cellB_letter {n : Nat} (h1 : 33 ≤ n) (h2 : n ≤ 126) : cellB ((n : Int), 0) = true := by
  simp [cellB, runeB, inR]
  omega
theorem cellOf_ok {T : List UInt8} (h : okT T) {j k : Nat} (hk : k ≤ T.length) : cellB (cellOf T j k) = true := by
  unfold cellOf
  split
  · obtain ⟨h1, h2⟩ := h.get (k := j) (by omega); exact cellB_letter h1 h2
  · exact cell_blC
theorem gridR_ok {T : List UInt8} (h : okT T) {W H g k : Nat} (hk : k ≤ T.length) : ∀ c ∈ gridR T W H g k, cellB c = true := by
  intro c hc
  obtain ⟨i, _, rfl⟩ := List.mem_map.1 hc
  exact cellOf_ok h hk
theorem gridR_first (T : List UInt8) (W H : Nat) : gridR T W H 0 0 = List.replicate (W * H) blC := by
  apply List.ext_getElem?
  intro i
  by_cases h : i < W * H
  · rw [gridR_get h, List.getElem?_replicate, if_pos h]; simp [cellOf]
  · rw [List.getElem?_eq_none (by rw [length_gridR]; omega), List.getElem?_eq_none (by rw [List.length_replicate]; omega)]
/-- a letter is put -/
theorem gridR_put {T : List UInt8} {W H g k i0 : Nat} (hi : g * W + i0 = k) (hl : i0 < W * H) : (gridR T W H g k).set i0 (((T.getD k 0).toNat : Int), 0) = gridR T W H g (k + 1) := by
  apply List.ext_getElem?
  intro i
  by_cases h : i < W * H
  · rw [gridR_get h]
    by_cases e : i0 = i
    · subst e
      rw [List.getElem?_set_self (by rw [length_gridR]; exact hl)]
      simp [cellOf, hi]
    · rw [List.getElem?_set_ne e, gridR_get h]
      congr 1
      unfold cellOf
      by_cases h2 : g * W + i < k
      · rw [if_pos h2, if_pos (by omega)]
      · rw [if_neg h2, if_neg (by omega)]
  · rw [List.getElem?_eq_none (by rw [List.length_set, length_gridR]; omega), List.getElem?_eq_none (by rw [length_gridR]; omega)]
/-- a row goes -/
theorem gridR_up {T : List UInt8} {W H g k : Nat} (hH : 1 ≤ H) (hk : k ≤ (g + H) * W) : upC W 0 (H - 1) (gridR T W H g k) = gridR T W H (g + 1) k := by
  have e1 : (H - 1) * W + W = W * H := by rw [← Nat.succ_mul, Nat.mul_comm W H]; congr 1; omega
  have e2 : (g + H) * W = g * W + W * H := by rw [Nat.add_mul, Nat.mul_comm H W]
  have e3 : (g + 1) * W = g * W + W := Nat.succ_mul _ _
  have hc : cpyL (gridR T W H g k) (0 * W) ((0 + 1) * W) ((H - 1 - 0) * W) = (gridR T W H g k).drop W ++ (gridR T W H g k).drop ((H - 1) * W) := by
    rw [cpyL, Nat.zero_mul, Nat.zero_add, Nat.one_mul, Nat.sub_zero, Nat.zero_add, List.take_zero, List.nil_append, List.take_of_length_le (by rw [List.length_drop, length_gridR]; omega)]
  rw [upC, hc]
  apply List.ext_getElem?
  intro i
  have hl : ((gridR T W H g k).drop W ++ (gridR T W H g k).drop ((H - 1) * W)).length = W * H := by
    rw [List.length_append, List.length_drop, List.length_drop, length_gridR]; omega
  by_cases h : i < W * H
  · rw [gridR_get h, fillL]
    by_cases h2 : i < (H - 1) * W
    · rw [List.getElem?_append_left (by rw [List.length_take, hl]; omega), List.getElem?_take_of_lt h2, List.getElem?_append_left (by rw [List.length_drop, length_gridR]; omega), List.getElem?_drop, gridR_get (by omega)]
      congr 2
      omega
    · rw [List.getElem?_append_right (by rw [List.length_take, hl]; omega), List.length_take, hl, Nat.min_eq_left (by omega), List.getElem?_append_left (by rw [List.length_replicate]; omega), List.getElem?_replicate, if_pos (by omega)]
      unfold cellOf
      rw [if_neg (by omega)]
  · rw [List.getElem?_eq_none (by rw [length_fillL (by rw [hl]; omega), hl]; omega), List.getElem?_eq_none (by rw [length_gridR]; omega)]
theorem encode_letter {b : UInt8} (h : b.toNat ≤ 126) : Lib.encodeRune (b.toNat : Int) = [b] := by
  simp [Lib.encodeRune, Lib.encodeRuneZ_one (r := (b.toNat : Int)) (by omega) (by omega)]
theorem runes_letters : ∀ {L : List UInt8}, (∀ b ∈ L, b.toNat ≤ 126) → runesB (L.map fun b => (b.toNat : Int)) = L
  | [], _ => rfl
  | b :: L, h => by
    have ih := runes_letters (L := L) fun x hx => h x (List.mem_cons_of_mem _ hx)
    have e := encode_letter (h b (List.mem_cons_self ..))
    simp only [runesB, List.map_cons, List.flatMap_cons] at ih ⊢
    rw [e, ih]; rfl
theorem runes_blanks : ∀ m : Nat, runesB (List.replicate m 32) = List.replicate m 32
  | 0 => rfl
  | m + 1 => by
    have ih := runes_blanks m
    simp only [runesB, List.replicate_succ, List.flatMap_cons] at ih ⊢
    rw [encode_blank, ih]; rfl
theorem trim_blanks (L : List UInt8) : ∀ m : Nat, Lib.trimRightB (L ++ List.replicate m 32) 32 = Lib.trimRightB L 32
  | 0 => by simp
  | m + 1 => by rw [List.replicate_succ', ← List.append_assoc, trimB_blank, trim_blanks L m]
theorem trim_letters {L : List UInt8} (h : ∀ b ∈ L, 33 ≤ b.toNat) : Lib.trimRightB L 32 = L := by
  rcases List.eq_nil_or_concat L with rfl | ⟨L', c, rfl⟩
  · rfl
  · rw [List.concat_eq_append]
    refine trimB_other _ _ fun e => ?_
    have := h c (by simp)
    rw [e] at this
    exact absurd this (by decide)
/-- the text of a row: the letters that stand in it -/
theorem rowTx_grid {T : List UInt8} (h : okT T) {W H g k y : Nat} (hk : k ≤ T.length) (hy : y < H) : rowTx (gridR T W H g k) W y = ((T.take k).drop ((g + y) * W)).take W := by
  have hyl : y * W + W ≤ W * H := by rw [← Nat.succ_mul, Nat.mul_comm W H]; exact Nat.mul_le_mul_right _ hy
  obtain ⟨L, hL⟩ : ∃ L, ((T.take k).drop ((g + y) * W)).take W = L := ⟨_, rfl⟩
  have hLl : L.length = min W (k - (g + y) * W) := by rw [← hL, List.length_take, List.length_drop, List.length_take]; omega
  have hLm : ∀ b ∈ L, 33 ≤ b.toNat ∧ b.toNat ≤ 126 := fun b hb => h b (List.mem_of_mem_take (List.mem_of_mem_drop (List.mem_of_mem_take (by rw [hL]; exact hb))))
  have e1 : (g + y) * W = g * W + y * W := Nat.add_mul _ _ _
  have hrow : (rowC (gridR T W H g k) W y).map (·.1) = (L.map fun b => (b.toNat : Int)) ++ List.replicate (W - L.length) 32 := by
    apply List.ext_getElem?
    intro c
    by_cases hc : c < W
    · have hr : (rowC (gridR T W H g k) W y)[c]? = some (cellOf T (g * W + (y * W + c)) k) := by
        rw [rowC, List.getElem?_take_of_lt hc, List.getElem?_drop, gridR_get (by omega)]
      rw [List.getElem?_map, hr]
      by_cases hc2 : c < L.length
      · rw [List.getElem?_append_left (by rw [List.length_map]; exact hc2), List.getElem?_map, List.getElem?_eq_getElem hc2]
        have hg : L[c]? = some (T.getD (g * W + (y * W + c)) 0) := by
          rw [← hL, List.getElem?_take_of_lt hc, List.getElem?_drop, List.getElem?_take_of_lt (by omega), List.getD_eq_getElem?_getD, show (g + y) * W + c = g * W + (y * W + c) from by omega, List.getElem?_eq_getElem (by omega)]
          rfl
        rw [List.getElem?_eq_getElem hc2] at hg
        simp only [Option.map_some, cellOf]
        rw [if_pos (by omega), Option.some.inj hg]
      · rw [List.getElem?_append_right (by rw [List.length_map]; omega), List.length_map, List.getElem?_replicate, if_pos (by omega)]
        simp only [Option.map_some, cellOf]
        rw [if_neg (by omega)]
        rfl
    · rw [List.getElem?_eq_none (by rw [List.length_map, rowC, List.length_take]; omega), List.getElem?_eq_none (by rw [List.length_append, List.length_map, List.length_replicate]; omega)]
  rw [rowTx, hrow, rowT, runesB_append, runes_letters fun b hb => (hLm b hb).2, runes_blanks, trim_blanks, trim_letters fun b hb => (hLm b hb).1, hL]
theorem histR_succ (T : List UInt8) (W g : Nat) : histR T W (g + 1) = histR T W g ++ [⟨(textR T W g).toArray⟩] := by simp [histR, List.range_succ]
theorem length_histR (T : List UInt8) (W g : Nat) : (histR T W g).length = g := by simp [histR]
theorem textR_take {T : List UInt8} {W r k : Nat} (h : (r + 1) * W ≤ k) : ((T.take k).drop (r * W)).take W = textR T W r := by
  have e : (r + 1) * W = r * W + W := Nat.succ_mul _ _
  rw [textR, List.drop_take, List.take_take, Nat.min_eq_left (by omega)]
theorem take_row (T : List UInt8) (W r : Nat) : T.take (r * W) ++ textR T W r = T.take ((r + 1) * W) := by
  rw [textR, Nat.succ_mul, List.take_add]
/-- the state: r rows stand above the cursor's (gone ones with them), x letters in the cursor's -/
structure Put (T : List UInt8) (W r x k : Nat) : Prop where
  eq : k = r * W + x
  x1 : x ≤ W
  x0 : r = 0 ∨ 1 ≤ x
  kl : k ≤ T.length
end Go.Proofs.YtfpbboldfilhlaaDoor
