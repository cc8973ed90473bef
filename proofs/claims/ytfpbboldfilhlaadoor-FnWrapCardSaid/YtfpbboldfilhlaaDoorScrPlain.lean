/-
  Plain words about screens: what a valid one is like, and its encoding. No program. No condition.
-/
import Derived.Test.YtfpbboldfilhlaaDoorScrOK2
import Derived.Test.YtfpbboldfilhlaaDoorFields3
namespace Go.Proofs.YtfpbboldfilhlaaDoor
open Go.ChangeShapes Go.WideShapes Go.ChangeAt Go.RowKit
set_option linter.unusedVariables false
set_option linter.unusedSimpArgs false

def cellL (c : Int × Int) : List UInt8 := bigL c.1.toNat 3 ++ bigL c.2.toNat 1
def cellsL (cs : List (Int × Int)) : List UInt8 := cs.flatMap cellL
theorem length_cellL (c : Int × Int) : (cellL c).length = 4 := by simp [cellL, length_bigL]
theorem length_cellsL (cs : List (Int × Int)) : (cellsL cs).length = 4 * cs.length := by
  induction cs with
  | nil => rfl
  | cons a l ih =>
    rw [show cellsL (a :: l) = cellL a ++ cellsL l from rfl, List.length_append, ih, length_cellL, List.length_cons]
    omega
theorem cellsL_snoc (cs : List (Int × Int)) (c : Int × Int) : cellsL (cs ++ [c]) = cellsL cs ++ (bigL c.1.toNat 3 ++ bigL c.2.toNat 1) := by simp [cellsL, cellL]
def rowC (cs : List (Int × Int)) (W y : Nat) : List (Int × Int) := (cs.drop (y * W)).take W
def rowsL (cs : List (Int × Int)) (W H : Nat) : List ByteArray := (List.range H).map fun y => ⟨(cellsL (rowC cs W y)).toArray⟩
theorem rowsL_snoc (cs : List (Int × Int)) (W k : Nat) : rowsL cs W (k + 1) = rowsL cs W k ++ [⟨(cellsL (rowC cs W k)).toArray⟩] := by simp [rowsL, List.range_succ]
theorem length_rowsL (cs : List (Int × Int)) (W H : Nat) : (rowsL cs W H).length = H := by simp [rowsL]
theorem length_rowC {cs : List (Int × Int)} {W H y : Nat} (h : cs.length = W * H) (hy : y < H) : (rowC cs W y).length = W := by
  have h1 : (y + 1) * W ≤ H * W := Nat.mul_le_mul_right W (by omega)
  have h2 : (y + 1) * W = y * W + W := by rw [Nat.succ_mul]
  have h3 : H * W = W * H := Nat.mul_comm _ _
  rw [rowC, List.length_take, List.length_drop]; omega
structure ScrFits (wd ht x y lk tp bt sx sy : Int) (ti : ByteArray) (cs : List (Int × Int)) (hs : List ByteArray) : Prop where
  w0 : 2 ≤ wd
  w1 : wd ≤ 24
  h0 : 2 ≤ ht
  h1 : ht ≤ 10
  x0 : 0 ≤ x
  x1 : x ≤ wd
  y0 : 0 ≤ y
  y1 : y ≤ ht - 1
  l0 : 0 ≤ lk
  l1 : lk ≤ 127
  t0 : 0 ≤ tp
  t1 : tp ≤ ht - 2
  b0 : tp + 1 ≤ bt
  b1 : bt ≤ ht - 1
  sx0 : 0 ≤ sx
  sx1 : sx ≤ wd
  sy0 : 0 ≤ sy
  sy1 : sy ≤ ht - 1
  ti1 : ti.size ≤ 40
  hs1 : hs.length ≤ 6
  cl : (cs.length : Int) = wd * ht
  hz : ∀ s ∈ hs, s.size ≤ 96
  cz : ∀ c ∈ cs, cellB c = true
theorem scrB_fits (wd ht x y lk tp bt sx sy : Int) (ti : ByteArray) {cs : List (Int × Int)} {hs : List ByteArray} (h : scrB wd ht x y lk tp bt sx sy ti cs hs = true) : ScrFits wd ht x y lk tp bt sx sy ti cs hs := by
  simp only [scrB, Bool.and_eq_true] at h
  obtain ⟨⟨⟨⟨⟨⟨⟨⟨⟨⟨⟨⟨h0, h1⟩, h2⟩, h3⟩, h4⟩, h5⟩, h6⟩, h7⟩, h8⟩, h9⟩, h10⟩, h11⟩, h12⟩ := h
  obtain ⟨a1, a2, a3, a4, _, _⟩ := size_facts h0
  have h1 := in_facts h1
  have h2 := in_facts h2
  have h3 := in_facts h3
  have h4 := in_facts h4
  have h5 := in_facts h5
  have h6 := in_facts h6
  have h7 := in_facts h7
  simp only [titleB, Bool.and_eq_true, decide_eq_true_eq] at h8
  simp only [decide_eq_true_eq] at h9
  have h11 := List.all_eq_true.1 h11
  have h12 := List.all_eq_true.1 h12
  exact ⟨a1, a2, a3, a4, h1.1, h1.2, h2.1, h2.2, h3.1, h3.2, h4.1, h4.2, h5.1, h5.2, h6.1, h6.2, h7.1, h7.2, h8.1, by omega, by simpa using h10, fun s hs => by simpa [histB] using h11 s hs, h12⟩
theorem cell_facts {c : Int × Int} (h : cellB c = true) : 32 ≤ c.1 ∧ c.1 ≤ 1114111 ∧ 0 ≤ c.2 ∧ c.2 ≤ 127 := by
  simp only [cellB, runeB, Bool.and_eq_true] at h
  obtain ⟨⟨⟨h1, _⟩, _⟩, h2⟩ := h
  have h1 := in_facts h1
  have h2 := in_facts h2
  exact ⟨h1.1, h1.2, h2.1, h2.2⟩
def scrNums (wd ht x y lk tp bt sx sy : Int) : List Int := [wd, ht, x, y, lk, tp, bt, sx, sy]
def scrStrs (wd ht x y lk tp bt sx sy : Int) (ti : ByteArray) (cs : List (Int × Int)) (hs : List ByteArray) : List ByteArray :=
  [⟨(numsB (scrNums wd ht x y lk tp bt sx sy)).toArray⟩, ti, ⟨(fieldsL hs).toArray⟩] ++ rowsL cs wd.toNat ht.toNat
def scrL (wd ht x y lk tp bt sx sy : Int) (ti : ByteArray) (cs : List (Int × Int)) (hs : List ByteArray) : List UInt8 := fieldsL (scrStrs wd ht x y lk tp bt sx sy ti cs hs)
theorem scrNums_ok (wd ht x y lk tp bt sx sy : Int) (ti : ByteArray) {cs : List (Int × Int)} {hs : List ByteArray} (h : ScrFits wd ht x y lk tp bt sx sy ti cs hs) : (scrNums wd ht x y lk tp bt sx sy).all okNum = true := by
  obtain ⟨_, _, _, _, _, _, _, _, _, _, _, _, _, _, _, _, _, _, _, _, _, _, _⟩ := h
  simp [scrNums, okNum]; omega
theorem scrNums_len (wd ht x y lk tp bt sx sy : Int) : (numsB (scrNums wd ht x y lk tp bt sx sy)).length = 27 := by rw [length_numsB]; rfl
theorem fldB_bound (zs : List ByteArray) (m : Nat) (h : ∀ s ∈ zs, s.size ≤ m) : (fldB zs).length ≤ (m + 2) * zs.length := by
  induction zs with
  | nil => simp [fldB]
  | cons a l ih =>
    have h1 := h a (by simp)
    have h2 := ih fun s hs => h s (by simp [hs])
    have e : fldB (a :: l) = (bigL a.size 2 ++ a.data.toList) ++ fldB l := rfl
    rw [e, List.length_append, List.length_append, length_bigL, List.length_cons, size_list, Nat.mul_add]
    omega
theorem hist_len {hs : List ByteArray} (h1 : hs.length ≤ 6) (h2 : ∀ s ∈ hs, s.size ≤ 96) : (fieldsL hs).length ≤ 589 := by
  have := fldB_bound hs 96 h2
  have h3 : (96 + 2) * hs.length ≤ (96 + 2) * 6 := Nat.mul_le_mul_left _ h1
  rw [length_fieldsL]; omega
theorem rows_small {cs : List (Int × Int)} {W H : Nat} (hW : W ≤ 24) : ∀ s ∈ rowsL cs W H, s.size ≤ 96 := by
  intro s hs
  simp only [rowsL, List.mem_map] at hs
  obtain ⟨k, _, rfl⟩ := hs
  show (cellsL _).toArray.size ≤ _
  have : (rowC cs W k).length ≤ W := by rw [rowC, List.length_take]; omega
  rw [List.size_toArray, length_cellsL]; omega
theorem scrStrs_small (wd ht x y lk tp bt sx sy : Int) (ti : ByteArray) {cs : List (Int × Int)} {hs : List ByteArray} (h : ScrFits wd ht x y lk tp bt sx sy ti cs hs) : ∀ s ∈ scrStrs wd ht x y lk tp bt sx sy ti cs hs, s.size ≤ 589 := by
  intro s hs'
  have e1 := hist_len h.hs1 h.hz
  have e2 := h.w1
  simp only [scrStrs, List.mem_append, List.mem_cons, List.not_mem_nil, or_false] at hs'
  rcases hs' with (rfl | rfl | rfl) | hs'
  · show (numsB _).toArray.size ≤ _
    rw [List.size_toArray, scrNums_len]; omega
  · have := h.ti1; omega
  · show (fieldsL _).toArray.size ≤ _
    rw [List.size_toArray]; omega
  · have := rows_small (by omega) s hs'; omega
theorem scrStrs_len (wd ht x y lk tp bt sx sy : Int) (ti : ByteArray) (cs : List (Int × Int)) (hs : List ByteArray) : (scrStrs wd ht x y lk tp bt sx sy ti cs hs).length = 3 + ht.toNat := by
  simp [scrStrs, length_rowsL]; omega
theorem scrL_len (wd ht x y lk tp bt sx sy : Int) (ti : ByteArray) {cs : List (Int × Int)} {hs : List ByteArray} (h : ScrFits wd ht x y lk tp bt sx sy ti cs hs) : (scrL wd ht x y lk tp bt sx sy ti cs hs).length ≤ 8000 := by
  have h1 := fldB_bound _ 589 (scrStrs_small wd ht x y lk tp bt sx sy ti h)
  have h2 := h.h1
  have h3 := scrStrs_len wd ht x y lk tp bt sx sy ti cs hs
  rw [scrL, length_fieldsL]
  have h4 : (589 + 2) * (scrStrs wd ht x y lk tp bt sx sy ti cs hs).length ≤ (589 + 2) * 13 := Nat.mul_le_mul_left _ (by omega)
  omega
theorem scr_fieldsT (wd ht x y lk tp bt sx sy : Int) (ti : ByteArray) {cs : List (Int × Int)} {hs : List ByteArray} (h : ScrFits wd ht x y lk tp bt sx sy ti cs hs) : fieldsT (scrStrs wd ht x y lk tp bt sx sy ti cs hs) = (scrL wd ht x y lk tp bt sx sy ti cs hs, 0) := by
  have hany : ¬ ((scrStrs wd ht x y lk tp bt sx sy ti cs hs).any fun s => decide (20000 < s.size)) = true := by
    rw [List.any_eq_true]
    rintro ⟨s, hs', hh⟩
    have := scrStrs_small wd ht x y lk tp bt sx sy ti h s hs'
    simp at hh; omega
  have hl := scrL_len wd ht x y lk tp bt sx sy ti h
  have h2 := h.h1
  rw [scrL] at hl
  rw [fieldsT, if_neg (by rw [scrStrs_len]; omega), if_neg hany, if_neg (by omega)]
  rfl
theorem hist_fieldsT {hs : List ByteArray} (h1 : hs.length ≤ 6) (h2 : ∀ s ∈ hs, s.size ≤ 96) : fieldsT hs = (fieldsL hs, 0) := by
  have hany : ¬ (hs.any fun s => decide (20000 < s.size)) = true := by
    rw [List.any_eq_true]
    rintro ⟨s, hs', hh⟩
    have := h2 s hs'
    simp at hh; omega
  have hl := hist_len h1 h2
  rw [fieldsT, if_neg (by omega), if_neg hany, if_neg (by omega)]
end Go.Proofs.YtfpbboldfilhlaaDoor
