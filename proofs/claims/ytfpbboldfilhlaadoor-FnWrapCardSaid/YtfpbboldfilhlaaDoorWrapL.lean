/-
  The plain law of FnWrap: the text of letters, its rows, and what stands where when all letters are put. No program in sight. No condition.
-/
import Derived.Test.YtfpbboldfilhlaaDoorWrapP
namespace Go.Proofs.YtfpbboldfilhlaaDoor
open Go.RowKit
set_option linter.unusedVariables false
set_option linter.unusedSimpArgs false
/-- the i-th letter -/
def wrapB (a i : Nat) : UInt8 := UInt8.ofNat (97 + (i + a) % 26)
/-- n letters -/
def wrapL (a n : Nat) : List UInt8 := (List.range n).map (wrapB a)
theorem wrapB_nat (a i : Nat) : (wrapB a i).toNat = 97 + (i + a) % 26 := by
  have : (i + a) % 26 < 26 := Nat.mod_lt _ (by decide)
  simp [wrapB]
  omega
theorem length_wrapL (a n : Nat) : (wrapL a n).length = n := by simp [wrapL]
theorem wrapL_succ (a n : Nat) : wrapL a (n + 1) = wrapL a n ++ [wrapB a n] := by simp [wrapL, List.range_succ]
theorem wrapL_ok (a n : Nat) : okT (wrapL a n) := by
  intro b hb
  obtain ⟨i, _, rfl⟩ := List.mem_map.1 hb
  have : (i + a) % 26 < 26 := Nat.mod_lt _ (by decide)
  rw [wrapB_nat]
  omega
/-- a text of bytes -/
def bt (L : List UInt8) : ByteArray := ⟨L.toArray⟩
theorem size_bt (L : List UInt8) : (bt L).size = L.length := by simp [bt, ByteArray.size]
theorem toList_bt (L : List UInt8) : (bt L).data.toList = L := by simp [bt]
theorem bt_append (L M : List UInt8) : bt L ++ bt M = bt (L ++ M) := by
  apply ByteArray.ext
  simp [bt]
theorem bt_wrap (a n : Nat) : bt (wrapL a n) ++ bt [wrapB a n] = bt (wrapL a (n + 1)) := by rw [bt_append, wrapL_succ]
/-- the rows of a text one after the other -/
theorem bt_row (T : List UInt8) (W r : Nat) : bt (T.take (r * W)) ++ bt (textR T W r) = bt (T.take ((r + 1) * W)) := by rw [bt_append, take_row]
theorem histR_get {T : List UInt8} {W g i : Nat} (h : i < g) : (histR T W g)[i]? = some (bt (textR T W i)) := by simp [histR, h, bt]
theorem rowTx_full {T : List UInt8} (h : okT T) {W H g n y : Nat} (hn : T.length = n) (hy : y < H) : rowTx (gridR T W H g n) W y = textR T W (g + y) := by
  rw [rowTx_grid h (by omega) hy, textR, List.take_of_length_le (i := n) (l := T) (by omega)]
/-- how many rows -/
theorem put_rows {T : List UInt8} {W r x n : Nat} (h : Put T W r x n) (h1 : 1 ≤ n) (h2 : 1 ≤ W) : (n + W - 1) / W = r + 1 := by
  have e := h.eq
  have x1 := h.x1
  have x0 : 1 ≤ x := by
    rcases h.x0 with h0 | h0
    · subst h0; omega
    · exact h0
  have e2 : n + W - 1 = (x - 1) + W * (r + 1) := by rw [Nat.mul_add, Nat.mul_comm W r]; omega
  rw [e2, Nat.add_mul_div_left _ _ (by omega), Nat.div_eq_of_lt (by omega), Nat.zero_add]
theorem put_le {T : List UInt8} {W H r x n : Nat} (h : Put T W r x n) (hn : n ≤ W * (H + 3)) (h1 : 1 ≤ n) : r < H + 3 := by
  rcases Nat.lt_or_ge r (H + 3) with h0 | h0
  · exact h0
  · exfalso
    have e := h.eq
    have q1 : W * (H + 3) ≤ W * r := Nat.mul_le_mul_left _ h0
    have q2 : W * r = r * W := Nat.mul_comm _ _
    rcases h.x0 with h2 | h2 <;> omega
theorem take_all {T : List UInt8} {W H g r x n : Nat} (h : Put T W r x n) (hT : T.length = n) (hg : r < g + H) : T.take ((g + H) * W) = T := by
  refine List.take_of_length_le ?_
  have e := h.eq
  have x1 := h.x1
  have q : (r + 1) * W ≤ (g + H) * W := Nat.mul_le_mul_right _ hg
  have q2 : (r + 1) * W = r * W + W := Nat.succ_mul _ _
  omega
end Go.Proofs.YtfpbboldfilhlaaDoor
