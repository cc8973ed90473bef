/-
  Plain words about screens of another size. No program. No condition.
-/
import Derived.Test.YtfdodbkopbmjeaaScrPlain
import Derived.Test.YtfdodbkopbmjeaaRepeat
namespace Go.Proofs.Ytfdodbkopbmjeaa
open Go.ChangeShapes Go.WideShapes Go.ChangeAt Go.RowKit
set_option linter.unusedVariables false

def bl : Int × Int := (32, 0)
def rzRow (cs : List (Int × Int)) (Wo Wn y : Nat) : List (Int × Int) := (rowC cs Wo y).take Wn ++ List.replicate (Wn - Wo) bl
def rzP (cs : List (Int × Int)) (Wo Wn k : Nat) : List (Int × Int) := (List.range k).flatMap (rzRow cs Wo Wn)
/-- the new cells when k rows are done and j cells of the next one -/
def rzC (cs : List (Int × Int)) (Wo Wn Hn k j : Nat) : List (Int × Int) := rzP cs Wo Wn k ++ ((rowC cs Wo k).take j ++ List.replicate ((Hn - k) * Wn - j) bl)
theorem rzP_succ (cs : List (Int × Int)) (Wo Wn k : Nat) : rzP cs Wo Wn (k + 1) = rzP cs Wo Wn k ++ rzRow cs Wo Wn k := by simp [rzP, List.range_succ]
theorem length_rzRow {cs : List (Int × Int)} {Wo Ho Wn y : Nat} (h : cs.length = Wo * Ho) (hy : y < Ho) : (rzRow cs Wo Wn y).length = Wn := by
  have := length_rowC h hy
  rw [rzRow, List.length_append, List.length_take, List.length_replicate, this]; omega
theorem length_rzP {cs : List (Int × Int)} {Wo Ho Wn : Nat} (h : cs.length = Wo * Ho) : ∀ k, k ≤ Ho → (rzP cs Wo Wn k).length = k * Wn
  | 0, _ => by simp [rzP]
  | k + 1, hk => by rw [rzP_succ, List.length_append, length_rzP h k (by omega), length_rzRow h (by omega), Nat.succ_mul]
theorem rz_blank (cs : List (Int × Int)) (Wo Wn Hn : Nat) : rzC cs Wo Wn Hn 0 0 = List.replicate (Hn * Wn) bl := by simp [rzC, rzP]
theorem rz_row {cs : List (Int × Int)} {Wo Ho Wn Hn k : Nat} (h : cs.length = Wo * Ho) (hk : k < Ho) (hkn : k < Hn) : rzC cs Wo Wn Hn k (min Wn Wo) = rzC cs Wo Wn Hn (k + 1) 0 := by
  have hl := length_rowC h hk
  have e1 : (Hn - k) * Wn = Wn + (Hn - (k + 1)) * Wn := by
    have : Hn - k = (Hn - (k + 1)) + 1 := by omega
    rw [this, Nat.succ_mul]; omega
  rw [rzC, rzC, rzP_succ, rzRow, List.take_zero, List.nil_append, List.append_assoc, List.append_assoc, List.replicate_append_replicate]
  congr 1
  have e2 : (rowC cs Wo k).take (min Wn Wo) = (rowC cs Wo k).take Wn := by
    rcases Nat.le_total Wn Wo with h2 | h2
    · rw [Nat.min_eq_left h2]
    · rw [Nat.min_eq_right h2, List.take_of_length_le (by omega), List.take_of_length_le (by omega)]
  rw [e2]
  congr 2
  rw [e1]
  rcases Nat.le_total Wn Wo with h2 | h2
  · rw [Nat.min_eq_left h2]; omega
  · rw [Nat.min_eq_right h2]; omega
theorem length_rzC {cs : List (Int × Int)} {Wo Ho Wn Hn k j : Nat} (h : cs.length = Wo * Ho) (hk : k < Ho) (hkn : k < Hn) (hj : j ≤ min Wn Wo) : (rzC cs Wo Wn Hn k j).length = Hn * Wn := by
  have e1 : Hn * Wn = k * Wn + (Hn - k) * Wn := by rw [← Nat.add_mul]; congr 1; omega
  have e2 : Wn ≤ (Hn - k) * Wn := Nat.le_mul_of_pos_left _ (by omega)
  have hl := length_rowC h hk
  rw [rzC, List.length_append, List.length_append, List.length_replicate, List.length_take, length_rzP h k (by omega), hl]
  omega
/-- a row copied -/
theorem rz_copy {cs : List (Int × Int)} {Wo Ho Wn Hn k : Nat} (h : cs.length = Wo * Ho) (hk : k < Ho) (hkn : k < Hn) :
    (rzC cs Wo Wn Hn k 0).take (k * Wn) ++ ((rowC cs Wo k).take (min Wn Wo) ++ (rzC cs Wo Wn Hn k 0).drop (k * Wn + min Wn Wo)) = rzC cs Wo Wn Hn (k + 1) 0 := by
  rw [← rz_row h hk hkn]
  have hp := length_rzP (Wn := Wn) h k (by omega)
  simp only [rzC, List.take_zero, List.nil_append, Nat.sub_zero]
  rw [List.take_append_of_le_length (by omega), List.take_of_length_le (by omega), List.drop_append, List.drop_replicate, hp, List.drop_eq_nil_of_le (by omega), List.nil_append]
  congr 3
  omega
/-- one cell set -/
theorem rz_set {cs : List (Int × Int)} {Wo Ho Wn Hn k j : Nat} (h : cs.length = Wo * Ho) (hk : k < Ho) (hkn : k < Hn) (hj : j < min Wn Wo) (hi : k * Wo + j < cs.length) :
    (rzC cs Wo Wn Hn k j).set (k * Wn + j) cs[k * Wo + j] = rzC cs Wo Wn Hn k (j + 1) := by
  have hp := length_rzP (Wn := Wn) h k (by omega)
  have hl := length_rowC h hk
  have hjl : j < (rowC cs Wo k).length := by omega
  have e2 : Wn ≤ (Hn - k) * Wn := Nat.le_mul_of_pos_left _ (by omega)
  have e3 : (Hn - k) * Wn - j = ((Hn - k) * Wn - (j + 1)) + 1 := by omega
  have ht : ((rowC cs Wo k).take j).length = j := by rw [List.length_take]; omega
  rw [rzC, rzC, List.set_append_right _ _ (by omega), hp, Nat.add_sub_cancel_left, List.set_append_right _ _ (by omega), ht, Nat.sub_self, e3, List.replicate_succ, List.set_cons_zero, List.take_succ_eq_append_getElem hjl, List.append_assoc]
  congr 2
  simp [rowC]
theorem mine_set_ne {B g o0 b : Nat} {w : World} {xs : List Value} (h : Mine B w (some ⟨g, o0, none⟩) xs) (hne : g ≠ b) (j : Nat) (v : Value) : Mine B (w.setCell ⟨b, j, none⟩ v) (some ⟨g, o0, none⟩) xs := by
  rcases h with h | ⟨q, u, e, hB, hc⟩
  · exact .inl h
  · cases e
    refine .inr ⟨_, _, rfl, hB, fun i hi => ?_⟩
    rw [World.cell?_setCell_other _ _ _ _ (by simp <;> omega), World.frozen?_setCell]
    exact hc i hi
end Go.Proofs.Ytfdodbkopbmjeaa
