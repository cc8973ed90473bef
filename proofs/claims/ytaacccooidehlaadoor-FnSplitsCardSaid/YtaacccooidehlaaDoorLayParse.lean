/-
  When a list of parts is a layout: the reference's walk over it and the given program's parse agree with there being a tree. No program in sight. No condition.
-/
import Derived.Test.YtaacccooidehlaaDoorLayPlain
namespace Go.Proofs.YtaacccooidehlaaDoor
open Go.RowKit
set_option linter.unusedVariables false

def clampS (n : Int) : Int := max 0 (min n 1000)
/-- the reference's walk: the place behind the last part, if all is right -/
def walkS (l : List PartV) : Nat → Nat → Int → Int → Option Nat
  | 0, _, _, _ => none
  | f + 1, k, w, h =>
    match l[k]? with
    | none => none
    | some n =>
      if w < 2 ∨ h < 2 then none
      else if n.left = -1 then (if n.right = -1 ∧ n.rows = false ∧ n.size = 0 ∧ 1 ≤ n.pane ∧ n.pane ≤ 1000 then some (k + 1) else none)
      else if n.pane ≠ 0 ∨ n.left ≠ (k + 1 : Nat) then none
      else match walkS l f (k + 1) (lwOf n.rows (clampS n.size) w) (lhOf n.rows (clampS n.size) h) with
        | none => none
        | some e => if n.right ≠ (e : Nat) then none else walkS l f e (rwOf n.rows (clampS n.size) w) (rhOf n.rows (clampS n.size) h)
/-- the given program's parse -/
def parsI (l : List PartV) : Nat → Nat → Option (Tr × Nat)
  | 0, _ => none
  | f + 1, i =>
    match l[i]? with
    | none => none
    | some p =>
      if p.pane ≠ 0 then (if p.rows = true ∨ p.size ≠ 0 ∨ p.left ≠ -1 ∨ p.right ≠ -1 then none else some (.leaf p.pane, i + 1))
      else match parsI l f (i + 1) with
        | none => none
        | some (a, next) =>
          if ¬ (1 ≤ p.size ∧ p.size ≤ 24) ∨ p.left ≠ (i + 1 : Nat) ∨ p.right ≠ (next : Nat) then none
          else match parsI l f next with
            | none => none
            | some (b, e) => some (.node p.rows p.size a b, e)
/-- leaves with a number, sizes that a screen can have -/
def Tr.okP : Tr → Prop
  | .leaf p => p ≠ 0
  | .node _ size l r => 1 ≤ size ∧ size ≤ 24 ∧ l.okP ∧ r.okP
theorem walkS_sound (l : List PartV) : ∀ (f k : Nat) (w h : Int) (e : Nat), walkS l f k w h = some e → w ≤ 1000 → h ≤ 1000 → ∃ t : Tr, PartsAt l k t ∧ e = k + t.len ∧ t.fits w h := by
  intro f
  induction f with
  | zero => intro k w h e he; cases he
  | succ f ih =>
    intro k w h e he hw hh
    unfold walkS at he
    split at he
    · cases he
    · rename_i n hn
      split at he
      · cases he
      · rename_i h2
        split at he
        · rename_i hl
          split at he
          · rename_i hc
            obtain ⟨c1, c2, c3, c4, c5⟩ := hc
            cases he
            refine ⟨.leaf n.pane, PartsAt.leaf.2 ?_, rfl, by omega, by omega, c4, c5⟩
            rw [hn]
            obtain ⟨np, nr, ns, nl, nrt⟩ := n
            simp at *
            simp [*]
          · cases he
        · rename_i hl
          split at he
          · cases he
          · rename_i hp
            have hp0 : n.pane = 0 := Classical.not_not.1 fun h => hp (.inl h)
            have hpl : n.left = (k + 1 : Nat) := Classical.not_not.1 fun h => hp (.inr h)
            split at he
            · cases he
            · rename_i e1 he1
              split at he
              · cases he
              · rename_i hr
                have hr' : n.right = (e1 : Nat) := Classical.not_not.1 hr
                have hc : 0 ≤ clampS n.size ∧ clampS n.size ≤ 1000 := by unfold clampS; omega
                obtain ⟨a, ha1, ha2, ha3⟩ := ih (k + 1) _ _ e1 he1 (by unfold lwOf; split <;> omega) (by unfold lhOf; split <;> omega)
                obtain ⟨b, hb1, hb2, hb3⟩ := ih e1 _ _ e he (by unfold rwOf; split <;> omega) (by unfold rhOf; split <;> omega)
                have t1 := Tr.fits_two ha3
                have t2 := Tr.fits_two hb3
                have hs : clampS n.size = n.size := by
                  unfold clampS at *
                  cases hrow : n.rows <;> simp [hrow, lwOf, lhOf, rwOf, rhOf] at t1 t2 <;> omega
                rw [hs] at ha3 hb3
                subst ha2
                refine ⟨.node n.rows n.size a b, PartsAt.node.2 ⟨?_, ha1, hb1⟩, by simp only [Tr.len]; omega, ha3, hb3⟩
                rw [hn, ← hp0, ← hpl, ← hr']
theorem walkS_complete (l : List PartV) : ∀ (t : Tr) (f k : Nat) (w h : Int), PartsAt l k t → t.fits w h → w ≤ 1000 → h ≤ 1000 → t.len ≤ f → walkS l f k w h = some (k + t.len) := by
  intro t
  induction t with
  | leaf p =>
    intro f k w h hp hf hw hh hl
    obtain ⟨f, rfl⟩ : ∃ g, f = g + 1 := ⟨f - 1, by simp only [Tr.len] at hl; omega⟩
    obtain ⟨f1, f2, f3, f4⟩ := hf
    unfold walkS
    rw [PartsAt.leaf.1 hp]
    simp only
    rw [if_neg (by omega), if_pos trivial, if_pos ⟨trivial, trivial, trivial, f3, f4⟩]; rfl
  | node rows size a b iha ihb =>
    intro f k w h hp hf hw hh hl
    obtain ⟨f, rfl⟩ : ∃ g, f = g + 1 := ⟨f - 1, by simp only [Tr.len] at hl; omega⟩
    obtain ⟨h0, h1, h2⟩ := PartsAt.node.1 hp
    have t0 := Tr.fits_two hf
    have ts := Tr.fits_size hf
    have hs : clampS size = size := by unfold clampS; cases rows <;> simp at ts <;> omega
    simp only [Tr.len] at hl
    unfold walkS
    rw [h0]
    simp only
    rw [hs, if_neg (by omega), if_neg (by omega), if_neg (by simp), iha f (k + 1) _ _ h1 hf.1 (by unfold lwOf; cases rows <;> simp at ts ⊢ <;> omega) (by unfold lhOf; cases rows <;> simp at ts ⊢ <;> omega) (by omega)]
    simp only
    rw [if_neg (by simp), ihb f (k + 1 + a.len) _ _ h2 hf.2 (by unfold rwOf; cases rows <;> simp at ts ⊢ <;> omega) (by unfold rhOf; cases rows <;> simp at ts ⊢ <;> omega) (by omega)]
    simp only [Tr.len]
    congr 1; omega
theorem parsI_sound (l : List PartV) : ∀ (f i : Nat) (t : Tr) (e : Nat), parsI l f i = some (t, e) → PartsAt l i t ∧ e = i + t.len ∧ t.okP := by
  intro f
  induction f with
  | zero => intro i t e he; cases he
  | succ f ih =>
    intro i t e he
    unfold parsI at he
    split at he
    · cases he
    · rename_i p hp
      split at he
      · rename_i h0
        split at he
        · cases he
        · rename_i hc
          simp only [Option.some.injEq, Prod.mk.injEq] at he
          obtain ⟨rfl, rfl⟩ := he
          refine ⟨PartsAt.leaf.2 ?_, rfl, h0⟩
          rw [hp]
          obtain ⟨np, nr, ns, nl, nrt⟩ := p
          simp only [not_or, Classical.not_not] at hc
          obtain ⟨c1, c2, c3, c4⟩ := hc
          simp at c1
          simp_all
      · rename_i h0
        have hp0 : p.pane = 0 := Classical.not_not.1 h0
        split at he
        · cases he
        · rename_i a next ha
          split at he
          · cases he
          · rename_i hc
            simp only [not_or, Classical.not_not] at hc
            obtain ⟨⟨c1, c2⟩, c3, c4⟩ := hc
            split at he
            · cases he
            · rename_i b e1 hb
              simp only [Option.some.injEq, Prod.mk.injEq] at he
              obtain ⟨rfl, rfl⟩ := he
              obtain ⟨ha1, ha2, ha3⟩ := ih _ _ _ ha
              obtain ⟨hb1, hb2, hb3⟩ := ih _ _ _ hb
              subst ha2
              refine ⟨PartsAt.node.2 ⟨?_, ha1, hb1⟩, by simp only [Tr.len]; omega, c1, c2, ha3, hb3⟩
              rw [hp, ← hp0, ← c3, ← c4]
theorem parsI_complete (l : List PartV) : ∀ (t : Tr) (f i : Nat), PartsAt l i t → t.okP → t.len ≤ f → parsI l f i = some (t, i + t.len) := by
  intro t
  induction t with
  | leaf p =>
    intro f i hp hk hl
    obtain ⟨f, rfl⟩ : ∃ g, f = g + 1 := ⟨f - 1, by simp only [Tr.len] at hl; omega⟩
    unfold parsI
    rw [PartsAt.leaf.1 hp]
    simp only
    rw [if_pos (show p ≠ 0 from hk), if_neg (by simp)]; rfl
  | node rows size a b iha ihb =>
    intro f i hp hk hl
    obtain ⟨f, rfl⟩ : ∃ g, f = g + 1 := ⟨f - 1, by simp only [Tr.len] at hl; omega⟩
    obtain ⟨h0, h1, h2⟩ := PartsAt.node.1 hp
    obtain ⟨k1, k2, k3, k4⟩ := hk
    simp only [Tr.len] at hl
    unfold parsI
    rw [h0]
    simp only
    rw [if_neg (by simp), iha f (i + 1) h1 k3 (by omega)]
    simp only
    rw [if_neg (by simp; omega), ihb f (i + 1 + a.len) h2 k4 (by omega)]
    simp only [Tr.len]
    congr 2; omega
section
variable {l : List PartV} {f i : Nat} {p : PartV}
theorem parsI_bad1 (hp : l[i]? = some p) (h0 : p.pane ≠ 0) (hc : p.rows = true ∨ p.size ≠ 0 ∨ p.left ≠ -1 ∨ p.right ≠ -1) : parsI l (f + 1) i = none := by
  rw [parsI, hp]; simp only; rw [if_pos h0, if_pos hc]
theorem parsI_leaf (hp : l[i]? = some p) (h0 : p.pane ≠ 0) (h1 : p.rows = false) (h2 : p.size = 0) (h3 : p.left = -1) (h4 : p.right = -1) : parsI l (f + 1) i = some (.leaf p.pane, i + 1) := by
  rw [parsI, hp]; simp only; rw [if_pos h0, if_neg (by simp [h1, h2, h3, h4])]
theorem parsI_left (hp : l[i]? = some p) (h0 : p.pane = 0) (h : parsI l f (i + 1) = none) : parsI l (f + 1) i = none := by
  rw [parsI, hp]; simp only; rw [if_neg (by simp [h0]), h]
theorem parsI_bad2 {a : Tr} {next : Nat} (hp : l[i]? = some p) (h0 : p.pane = 0) (h : parsI l f (i + 1) = some (a, next)) (hc : ¬ (1 ≤ p.size ∧ p.size ≤ 24) ∨ p.left ≠ (i + 1 : Nat) ∨ p.right ≠ (next : Nat)) : parsI l (f + 1) i = none := by
  rw [parsI, hp]; simp only; rw [if_neg (by simp [h0]), h]; simp only; rw [if_pos hc]
theorem parsI_right {a : Tr} {next : Nat} (hp : l[i]? = some p) (h0 : p.pane = 0) (h : parsI l f (i + 1) = some (a, next)) (h' : parsI l f next = none) : parsI l (f + 1) i = none := by
  rw [parsI, hp]; simp only; rw [if_neg (by simp [h0]), h]; simp only
  split
  · rfl
  · rw [h']
theorem parsI_node {a b : Tr} {next e : Nat} (hp : l[i]? = some p) (h0 : p.pane = 0) (h : parsI l f (i + 1) = some (a, next)) (h1 : 1 ≤ p.size) (h2 : p.size ≤ 24) (h3 : p.left = (i + 1 : Nat)) (h4 : p.right = (next : Nat)) (h' : parsI l f next = some (b, e)) :
    parsI l (f + 1) i = some (.node p.rows p.size a b, e) := by
  rw [parsI, hp]; simp only; rw [if_neg (by simp [h0]), h]; simp only; rw [if_neg (by simp [h3, h4]; omega), h']
end
theorem Tr.fits_okP : ∀ {t : Tr} {w h : Int}, t.fits w h → w ≤ 24 → h ≤ 24 → t.okP
  | .leaf p, w, h, f, _, _ => by have h1 : 1 ≤ p := f.2.2.1; show p ≠ 0; omega
  | .node rows size l r, w, h, f, hw, hh => by
    have ts := Tr.fits_size f
    refine ⟨by omega, by cases rows <;> simp at ts <;> omega, Tr.fits_okP f.1 ?_ ?_, Tr.fits_okP f.2 ?_ ?_⟩
    · unfold lwOf; cases rows <;> simp at ts ⊢ <;> omega
    · unfold lhOf; cases rows <;> simp at ts ⊢ <;> omega
    · unfold rwOf; cases rows <;> simp at ts ⊢ <;> omega
    · unfold rhOf; cases rows <;> simp at ts ⊢ <;> omega
/-- a list of parts is the layout t of a whole of w columns and h rows -/
structure Lay (l : List PartV) (w h : Int) (t : Tr) : Prop where
  w1 : 2 ≤ w
  w2 : w ≤ 24
  h1 : 2 ≤ h
  h2 : h ≤ 10
  lv : t.leaves ≤ 6
  eq : l = t.parts 0
  ft : t.fits w h
  nd : t.panes.Nodup
theorem Lay.okP {l : List PartV} {w h : Int} {t : Tr} (y : Lay l w h t) : t.okP := Tr.fits_okP y.ft y.w2 (by have := y.h2; omega)
theorem parts_inj {t t' : Tr} (h : t.okP) (h' : t'.okP) (he : t.parts 0 = t'.parts 0) : t = t' := by
  have hl : t.len = t'.len := by rw [← t.length_parts 0, ← t'.length_parts 0, he]
  have p1 := parsI_complete (t.parts 0) t t.len 0 (PartsAt.self t) h (Nat.le_refl _)
  have p2 := parsI_complete (t'.parts 0) t' t'.len 0 (PartsAt.self t') h' (Nat.le_refl _)
  rw [← he, ← hl, p1] at p2
  simp only [Option.some.injEq, Prod.mk.injEq] at p2
  exact p2.1
theorem Lay.unique {l : List PartV} {w h : Int} {t t' : Tr} (y : Lay l w h t) (y' : Lay l w h t') : t = t' := parts_inj y.okP y'.okP (y.eq.symm.trans y'.eq)
/-- whether a list of parts is a layout -/
noncomputable def okL (l : List PartV) (w h : Int) : Bool := @decide (∃ t, Lay l w h t) (Classical.propDecidable _)
theorem okL_true {l : List PartV} {w h : Int} {t : Tr} (y : Lay l w h t) : okL l w h = true := by unfold okL; exact @decide_eq_true _ (Classical.propDecidable _) ⟨t, y⟩
theorem okL_false {l : List PartV} {w h : Int} (n : ∀ t, ¬ Lay l w h t) : okL l w h = false := by unfold okL; exact @decide_eq_false _ (Classical.propDecidable _) fun ⟨t, y⟩ => n t y
theorem okL_get {l : List PartV} {w h : Int} (e : okL l w h = true) : ∃ t, Lay l w h t := by unfold okL at e; exact @of_decide_eq_true _ (Classical.propDecidable _) e
theorem okL_none {l : List PartV} {w h : Int} (e : okL l w h = false) (t : Tr) : ¬ Lay l w h t := fun y => by rw [okL_true y] at e; cases e
end Go.Proofs.YtaacccooidehlaaDoor
