/-
  How often the areas of a layout cover a place: once. No program in sight. No condition.
-/
import Derived.Test.YtlmppnckimoclaaLayPlain
namespace Go.Proofs.Ytlmppnckimoclaa
open Go.RowKit
set_option linter.unusedVariables false
set_option linter.unusedSimpArgs false
/-- the place lies in the area -/
def AreaV.has (a : AreaV) (px py : Int) : Bool := decide (a.x ≤ px ∧ px < a.x + a.w ∧ a.y ≤ py ∧ py < a.y + a.h)
def covers : List AreaV → Int → Int → Nat
  | [], _, _ => 0
  | a :: ls, px, py => (if a.x ≤ px ∧ px < a.x + a.w ∧ a.y ≤ py ∧ py < a.y + a.h then 1 else 0) + covers ls px py
theorem covers_append : ∀ (ls bs : List AreaV) (px py : Int), covers (ls ++ bs) px py = covers ls px py + covers bs px py
  | [], bs, px, py => by simp [covers]
  | a :: ls, bs, px, py => by simp only [List.cons_append, covers, covers_append ls bs]; omega
theorem covers_le : ∀ (ls : List AreaV) (px py : Int), covers ls px py ≤ ls.length
  | [], px, py => Nat.le_refl _
  | a :: ls, px, py => by have := covers_le ls px py; simp only [covers, List.length_cons]; split <;> omega
theorem Tr.covers : ∀ (t : Tr) (x y w h : Int), t.fits w h → ∀ px py, Proofs.Ytlmppnckimoclaa.covers (t.areas x y w h) px py = if x ≤ px ∧ px < x + w ∧ y ≤ py ∧ py < y + h then 1 else 0
  | .leaf p, x, y, w, h, f, px, py => by simp only [Tr.areas, Proofs.Ytlmppnckimoclaa.covers, Nat.add_zero]
  | .node rows size l r, x, y, w, h, f, px, py => by
    have h1 := Tr.fits_two f.1
    have h2 := Tr.fits_two f.2
    rw [Tr.areas, covers_append, Tr.covers l _ _ _ _ f.1, Tr.covers r _ _ _ _ f.2]
    cases rows <;> simp only [lwOf, lhOf, rwOf, rhOf, rxOf, ryOf, Bool.false_eq_true, if_false, if_true] at h1 h2 ⊢ <;> (repeat' split) <;> omega
theorem Tr.areas_in : ∀ (t : Tr) (x y w h : Int), t.fits w h → ∀ a ∈ t.areas x y w h, x ≤ a.x ∧ a.x + a.w ≤ x + w ∧ y ≤ a.y ∧ a.y + a.h ≤ y + h ∧ 2 ≤ a.w ∧ 2 ≤ a.h
  | .leaf p, x, y, w, h, f, a, ha => by
    simp only [Tr.areas, List.mem_singleton] at ha
    subst ha
    have := f.1
    have := f.2.1
    simp only
    omega
  | .node rows size l r, x, y, w, h, f, a, ha => by
    have h1 := Tr.fits_two f.1
    have h2 := Tr.fits_two f.2
    simp only [Tr.areas, List.mem_append] at ha
    rcases ha with ha | ha
    · have := Tr.areas_in l _ _ _ _ f.1 a ha
      cases rows <;> simp only [lwOf, lhOf, rwOf, rhOf, rxOf, ryOf, Bool.false_eq_true, if_false, if_true] at h1 h2 this <;> omega
    · have := Tr.areas_in r _ _ _ _ f.2 a ha
      cases rows <;> simp only [lwOf, lhOf, rwOf, rhOf, rxOf, ryOf, Bool.false_eq_true, if_false, if_true] at h1 h2 this <;> omega
/-- numbers, one for each place -/
def gridL (n : Nat) (f : Nat → Nat) : List Int := (List.range n).map (fun j => ((f j : Nat) : Int))
theorem length_gridL (n : Nat) (f : Nat → Nat) : (gridL n f).length = n := by simp [gridL]
theorem gridL_get {n : Nat} {f : Nat → Nat} {k : Nat} (h : k < n) : (gridL n f)[k]? = some ((f k : Nat) : Int) := by
  simp [gridL, h]
theorem gridL_congr {n : Nat} {f g : Nat → Nat} (h : ∀ j, j < n → f j = g j) : gridL n f = gridL n g := by
  apply List.map_congr_left
  intro j hj
  rw [h j (List.mem_range.1 hj)]
theorem gridL_set {n : Nat} {f g : Nat → Nat} {k v : Nat} (h : ∀ j, j < n → g j = if j = k then v else f j) : (gridL n f).set k (v : Int) = gridL n g := by
  apply List.ext_getElem?
  intro j
  by_cases hj : j < n
  · rw [gridL_get hj, h j hj]
    by_cases e : k = j
    · subst e
      rw [List.getElem?_set_self (by rw [length_gridL]; exact hj), if_pos rfl]
    · rw [List.getElem?_set_ne e, gridL_get hj, if_neg (fun h => e h.symm)]
  · rw [List.getElem?_eq_none (by rw [List.length_set, length_gridL]; omega), List.getElem?_eq_none (by rw [length_gridL]; omega)]
/-- how often place j is covered -/
def cnt (ls : List AreaV) (w j : Nat) : Nat := covers ls ((j % w : Nat) : Int) ((j / w : Nat) : Int)
/-- the count while area a is gone over: rows up to y, columns of row y up to x -/
def cntY (ls : List AreaV) (w : Nat) (ax ay aw y : Nat) (j : Nat) : Nat := cnt ls w j + cnt [⟨0, ax, ay, aw, (y : Int) - ay⟩] w j
def cntX (ls : List AreaV) (w : Nat) (ax ay aw y x : Nat) (j : Nat) : Nat := cntY ls w ax ay aw y j + cnt [⟨0, ax, y, (x : Int) - ax, 1⟩] w j
theorem cntY_first (ls : List AreaV) (w ax ay aw j : Nat) : cntY ls w ax ay aw ay j = cnt ls w j := by
  simp only [cntY, cnt, covers]
  rw [if_neg (by omega)]
  omega
theorem cntX_first (ls : List AreaV) (w ax ay aw y j : Nat) : cntX ls w ax ay aw y ax j = cntY ls w ax ay aw y j := by
  simp only [cntX, cnt, covers]
  rw [if_neg (by omega)]
  omega
theorem cntY_next (ls : List AreaV) (w ax ay aw y j : Nat) (hy : ay ≤ y) : cntX ls w ax ay aw y (ax + aw) j = cntY ls w ax ay aw (y + 1) j := by
  simp only [cntX, cntY, cnt, covers]
  (repeat' split) <;> omega
theorem cntX_next (ls : List AreaV) (w ax ay aw y x j : Nat) (hx : ax ≤ x) (hxw : x < w) : cntX ls w ax ay aw y (x + 1) j = if j = y * w + x then cntX ls w ax ay aw y x (y * w + x) + 1 else cntX ls w ax ay aw y x j := by
  by_cases e : j = y * w + x
  · rw [if_pos e, e]
    have h1 : (y * w + x) % w = x := by rw [Nat.mul_comm, Nat.mul_add_mod, Nat.mod_eq_of_lt hxw]
    have h2 : (y * w + x) / w = y := by rw [Nat.mul_comm, Nat.mul_add_div (by omega), Nat.div_eq_of_lt hxw, Nat.add_zero]
    simp only [cntX, cnt, covers, h1, h2]
    (repeat' split) <;> omega
  · rw [if_neg e]
    have h3 : ¬ (j % w = x ∧ j / w = y) := fun ⟨h1, h2⟩ => e (by rw [← h1, ← h2, Nat.mul_comm]; exact (Nat.div_add_mod j w).symm)
    simp only [cntX, cnt, covers]
    (repeat' split) <;> omega
theorem cnt_next (ls : List AreaV) (a : AreaV) (w ax ay aw ah : Nat) (h1 : a.x = ax) (h2 : a.y = ay) (h3 : a.w = aw) (h4 : a.h = ah) (j : Nat) : cntY ls w ax ay aw (ay + ah) j = cnt (ls ++ [a]) w j := by
  simp only [cntY, cnt, covers_append]
  simp only [covers, h1, h2, h3, h4]
  (repeat' split) <;> omega
theorem cntX_le (ls : List AreaV) (w ax ay aw y x j : Nat) : cntX ls w ax ay aw y x j ≤ ls.length + 2 := by
  have h1 := covers_le ls ((j % w : Nat) : Int) ((j / w : Nat) : Int)
  have h2 := covers_le [⟨0, ax, ay, aw, (y : Int) - ay⟩] ((j % w : Nat) : Int) ((j / w : Nat) : Int)
  have h3 := covers_le [⟨0, ax, y, (x : Int) - ax, 1⟩] ((j % w : Nat) : Int) ((j / w : Nat) : Int)
  simp only [List.length_cons, List.length_nil] at h2 h3
  simp only [cntX, cntY, cnt]
  omega
theorem cnt_all (t : Tr) (w h : Nat) (f : t.fits w h) (j : Nat) (hj : j < w * h) : cnt (t.areas 0 0 w h) w j = 1 := by
  have hw : 0 < w := by have := (Tr.fits_two f).1; omega
  have h1 : j % w < w := Nat.mod_lt _ hw
  have h2 : j / w < h := by rw [Nat.div_lt_iff_lt_mul hw, Nat.mul_comm]; exact hj
  rw [cnt, Tr.covers t 0 0 w h f]
  generalize j % w = u at *
  generalize j / w = v at *
  rw [if_pos (by omega)]
end Go.Proofs.Ytlmppnckimoclaa
