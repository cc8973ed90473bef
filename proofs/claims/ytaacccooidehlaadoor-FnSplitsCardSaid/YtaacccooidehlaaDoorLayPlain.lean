/-
  Layouts as trees, in plain words: their parts, when a list of parts is one, what each part needs, and the areas. No program in sight. No condition.
-/
import Derived.Test.YtaacccooidehlaaDoorBase
namespace Go.Proofs.YtaacccooidehlaaDoor
open Go.RowKit
set_option linter.unusedVariables false

/-- a part of a layout -/
structure PartV where
  pane : Int
  rows : Bool
  size : Int
  left : Int
  right : Int
/-- a layout as a tree -/
inductive Tr where
  | leaf (pane : Int)
  | node (rows : Bool) (size : Int) (l r : Tr)
def Tr.len : Tr → Nat
  | .leaf _ => 1
  | .node _ _ l r => 1 + l.len + r.len
def Tr.leaves : Tr → Nat
  | .leaf _ => 1
  | .node _ _ l r => l.leaves + r.leaves
theorem Tr.len_eq : ∀ t : Tr, t.len + 1 = 2 * t.leaves
  | .leaf _ => rfl
  | .node _ _ l r => by have := l.len_eq; have := r.len_eq; simp only [Tr.len, Tr.leaves]; omega
theorem Tr.leaves_pos (t : Tr) : 0 < t.leaves := by have := t.len_eq; omega
theorem Tr.len_pos (t : Tr) : 0 < t.len := by have := t.len_eq; have := t.leaves_pos; omega
/-- the parts of a tree, the first at place k -/
def Tr.parts : Tr → Nat → List PartV
  | .leaf p, _ => [⟨p, false, 0, -1, -1⟩]
  | .node rows size l r, k => ⟨0, rows, size, (k + 1 : Nat), (k + 1 + l.len : Nat)⟩ :: (l.parts (k + 1) ++ r.parts (k + 1 + l.len))
theorem Tr.length_parts : ∀ (t : Tr) (k : Nat), (t.parts k).length = t.len
  | .leaf _, _ => rfl
  | .node _ _ l r, k => by simp only [Tr.parts, Tr.len, List.length_cons, List.length_append, l.length_parts, r.length_parts]; omega
def Tr.panes : Tr → List Int
  | .leaf p => [p]
  | .node _ _ l r => l.panes ++ r.panes
theorem Tr.length_panes : ∀ t : Tr, t.panes.length = t.leaves
  | .leaf _ => rfl
  | .node _ _ l r => by simp only [Tr.panes, Tr.leaves, List.length_append, l.length_panes, r.length_panes]
/-- an area -/
structure AreaV where
  pane : Int
  x : Int
  y : Int
  w : Int
  h : Int
/-- the sizes of both parts -/
def lwOf (rows : Bool) (size w : Int) : Int := if rows then w else size
def lhOf (rows : Bool) (size h : Int) : Int := if rows then size else h
def rwOf (rows : Bool) (size w : Int) : Int := if rows then w else w - size
def rhOf (rows : Bool) (size h : Int) : Int := if rows then h - size else h
def rxOf (rows : Bool) (size x : Int) : Int := if rows then x else x + size
def ryOf (rows : Bool) (size y : Int) : Int := if rows then y + size else y
def Tr.areas : Tr → Int → Int → Int → Int → List AreaV
  | .leaf p, x, y, w, h => [⟨p, x, y, w, h⟩]
  | .node rows size l r, x, y, w, h => l.areas x y (lwOf rows size w) (lhOf rows size h) ++ r.areas (rxOf rows size x) (ryOf rows size y) (rwOf rows size w) (rhOf rows size h)
theorem Tr.length_areas : ∀ (t : Tr) (x y w h : Int), (t.areas x y w h).length = t.leaves
  | .leaf _, _, _, _, _ => rfl
  | .node _ _ l r, x, y, w, h => by simp only [Tr.areas, Tr.leaves, List.length_append, l.length_areas, r.length_areas]
theorem Tr.areas_panes : ∀ (t : Tr) (x y w h : Int), (t.areas x y w h).map (·.pane) = t.panes
  | .leaf _, _, _, _, _ => rfl
  | .node _ _ l r, x, y, w, h => by simp only [Tr.areas, Tr.panes, List.map_append, l.areas_panes, r.areas_panes]
/-- each pane has a right number and two columns and rows -/
def Tr.fits : Tr → Int → Int → Prop
  | .leaf p, w, h => 2 ≤ w ∧ 2 ≤ h ∧ 1 ≤ p ∧ p ≤ 1000
  | .node rows size l r, w, h => l.fits (lwOf rows size w) (lhOf rows size h) ∧ r.fits (rwOf rows size w) (rhOf rows size h)
theorem Tr.fits_two : ∀ {t : Tr} {w h : Int}, t.fits w h → 2 ≤ w ∧ 2 ≤ h
  | .leaf _, _, _, f => ⟨f.1, f.2.1⟩
  | .node rows size l r, w, h, f => by
    have h1 := Tr.fits_two f.1
    have h2 := Tr.fits_two f.2
    cases rows <;> simp [lwOf, lhOf, rwOf, rhOf] at h1 h2 <;> omega
theorem Tr.fits_size {rows : Bool} {size : Int} {l r : Tr} {w h : Int} (f : (Tr.node rows size l r).fits w h) : 2 ≤ size ∧ (if rows then size + 2 ≤ h else size + 2 ≤ w) := by
  have h1 := Tr.fits_two f.1
  have h2 := Tr.fits_two f.2
  cases rows <;> simp [lwOf, lhOf, rwOf, rhOf] at h1 h2 ⊢ <;> omega
theorem Tr.fits_areas : ∀ (t : Tr) (x y w h : Int), t.fits w h ↔ ∀ a ∈ t.areas x y w h, 2 ≤ a.w ∧ 2 ≤ a.h ∧ 1 ≤ a.pane ∧ a.pane ≤ 1000
  | .leaf p, x, y, w, h => by simp [Tr.fits, Tr.areas]
  | .node rows size l r, x, y, w, h => by
    simp only [Tr.fits, Tr.areas, List.mem_append]
    rw [l.fits_areas x y, r.fits_areas (rxOf rows size x) (ryOf rows size y)]
    constructor
    · rintro ⟨h1, h2⟩ a (ha | ha)
      · exact h1 a ha
      · exact h2 a ha
    · exact fun h => ⟨fun a ha => h a (.inl ha), fun a ha => h a (.inr ha)⟩

/-- the parts lie in a list at place k -/
def PartsAt (l : List PartV) (k : Nat) (t : Tr) : Prop := ∀ i p, (t.parts k)[i]? = some p → l[k + i]? = some p
theorem PartsAt.node {l : List PartV} {k : Nat} {rows : Bool} {size : Int} {a b : Tr} : PartsAt l k (.node rows size a b) ↔ l[k]? = some ⟨0, rows, size, (k + 1 : Nat), (k + 1 + a.len : Nat)⟩ ∧ PartsAt l (k + 1) a ∧ PartsAt l (k + 1 + a.len) b := by
  constructor
  · intro h
    refine ⟨h 0 _ rfl, fun i p hp => ?_, fun i p hp => ?_⟩
    · have hi : i < a.len := by rw [← a.length_parts (k + 1)]; exact (List.getElem?_eq_some_iff.1 hp).1
      have := h (i + 1) p (by simp only [Tr.parts, List.getElem?_cons_succ]; rw [List.getElem?_append_left (by rw [a.length_parts]; exact hi)]; exact hp)
      rw [show k + 1 + i = k + (i + 1) from by omega]; exact this
    · have := h (a.len + i + 1) p (by simp only [Tr.parts, List.getElem?_cons_succ]; rw [List.getElem?_append_right (by rw [a.length_parts]; omega), a.length_parts, show a.len + i - a.len = i from by omega]; exact hp)
      rw [show k + 1 + a.len + i = k + (a.len + i + 1) from by omega]; exact this
  · rintro ⟨h0, h1, h2⟩ i p hp
    cases i with
    | zero => simp only [Tr.parts, List.getElem?_cons_zero, Option.some.injEq] at hp; subst hp; exact h0
    | succ i =>
      simp only [Tr.parts, List.getElem?_cons_succ] at hp
      by_cases hi : i < a.len
      · rw [List.getElem?_append_left (by rw [a.length_parts]; exact hi)] at hp
        have := h1 i p hp
        rw [show k + (i + 1) = k + 1 + i from by omega]; exact this
      · rw [List.getElem?_append_right (by rw [a.length_parts]; omega), a.length_parts] at hp
        have := h2 (i - a.len) p hp
        rw [show k + (i + 1) = k + 1 + a.len + (i - a.len) from by omega]; exact this
theorem PartsAt.leaf {l : List PartV} {k : Nat} {p : Int} : PartsAt l k (.leaf p) ↔ l[k]? = some ⟨p, false, 0, -1, -1⟩ := by
  constructor
  · intro h; exact h 0 _ rfl
  · intro h i q hq
    cases i with
    | zero => simp only [Tr.parts, List.getElem?_cons_zero, Option.some.injEq] at hq; subst hq; exact h
    | succ i => simp [Tr.parts] at hq
theorem PartsAt.all {l : List PartV} {t : Tr} (h : PartsAt l 0 t) (hl : l.length = t.len) : l = t.parts 0 := by
  apply List.ext_getElem?
  intro i
  by_cases hi : i < t.len
  · have hp : (t.parts 0)[i]? = some ((t.parts 0)[i]'(by rw [t.length_parts]; exact hi)) := List.getElem?_eq_getElem _
    have := h i _ hp
    rw [Nat.zero_add] at this
    rw [this, hp]
  · rw [List.getElem?_eq_none (by omega), List.getElem?_eq_none (by rw [t.length_parts]; omega)]
theorem PartsAt.self (t : Tr) : PartsAt (t.parts 0) 0 t := fun i p hp => by rw [Nat.zero_add]; exact hp
theorem PartsAt.le {l : List PartV} {k : Nat} {t : Tr} (h : PartsAt l k t) : k + t.len ≤ l.length := by
  have hp := t.len_pos
  have he : (t.parts k)[t.len - 1]? = some ((t.parts k)[t.len - 1]'(by rw [t.length_parts]; omega)) := List.getElem?_eq_getElem _
  have := (List.getElem?_eq_some_iff.1 (h _ _ he)).1
  omega
end Go.Proofs.YtaacccooidehlaaDoor
