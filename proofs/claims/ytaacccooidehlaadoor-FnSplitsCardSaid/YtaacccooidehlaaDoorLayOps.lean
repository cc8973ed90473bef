/-
  What the operations on layouts do to trees: fitting, removing, moving, splitting; and that they leave layouts. No program in sight. No condition.
-/
import Derived.Test.YtaacccooidehlaaDoorLayParse
namespace Go.Proofs.YtaacccooidehlaaDoor
open Go.RowKit
set_option linter.unusedVariables false

def Tr.needW : Tr → Int
  | .leaf _ => 2
  | .node rows _ l r => if rows then max l.needW r.needW else l.needW + r.needW
def Tr.needH : Tr → Int
  | .leaf _ => 2
  | .node rows _ l r => if rows then l.needH + r.needH else max l.needH r.needH
theorem Tr.need_two : ∀ t : Tr, 2 ≤ t.needW ∧ 2 ≤ t.needH ∧ t.needW ≤ 2 * t.leaves ∧ t.needH ≤ 2 * t.leaves
  | .leaf _ => by simp [Tr.needW, Tr.needH, Tr.leaves]
  | .node rows _ l r => by
    have h1 := l.need_two
    have h2 := r.need_two
    cases rows <;> simp only [Tr.needW, Tr.needH, Tr.leaves, Bool.false_eq_true, if_false, if_true] <;> omega
theorem Tr.fits_need : ∀ {t : Tr} {w h : Int}, t.fits w h → t.needW ≤ w ∧ t.needH ≤ h
  | .leaf _, w, h, f => ⟨f.1, f.2.1⟩
  | .node rows size l r, w, h, f => by
    have h1 := Tr.fits_need f.1
    have h2 := Tr.fits_need f.2
    cases rows <;> simp [lwOf, lhOf, rwOf, rhOf, Tr.needW, Tr.needH] at h1 h2 ⊢ <;> omega
/-- the size that lets both parts have what they need, the nearest one -/
def sizeFit (rows : Bool) (size : Int) (l r : Tr) (w h : Int) : Int := if rows then max l.needH (min size (h - r.needH)) else max l.needW (min size (w - r.needW))
def Tr.fit : Tr → Int → Int → Tr
  | .leaf p, _, _ => .leaf p
  | .node rows size l r, w, h => .node rows (sizeFit rows size l r w h) (l.fit (lwOf rows (sizeFit rows size l r w h) w) (lhOf rows (sizeFit rows size l r w h) h)) (r.fit (rwOf rows (sizeFit rows size l r w h) w) (rhOf rows (sizeFit rows size l r w h) h))
theorem Tr.fit_same : ∀ (t : Tr) (w h : Int), (t.fit w h).panes = t.panes ∧ (t.fit w h).leaves = t.leaves ∧ (t.fit w h).len = t.len ∧ (t.fit w h).needW = t.needW ∧ (t.fit w h).needH = t.needH
  | .leaf _, _, _ => ⟨rfl, rfl, rfl, rfl, rfl⟩
  | .node rows size l r, w, h => by
    obtain ⟨a1, a2, a3, a4, a5⟩ := l.fit_same (lwOf rows (sizeFit rows size l r w h) w) (lhOf rows (sizeFit rows size l r w h) h)
    obtain ⟨b1, b2, b3, b4, b5⟩ := r.fit_same (rwOf rows (sizeFit rows size l r w h) w) (rhOf rows (sizeFit rows size l r w h) h)
    simp only [Tr.fit, Tr.panes, Tr.leaves, Tr.len, Tr.needW, Tr.needH, a1, a2, a3, a4, a5, b1, b2, b3, b4, b5, and_self]
/-- panes with a right number -/
def Tr.okN (t : Tr) : Prop := ∀ p ∈ t.panes, 1 ≤ p ∧ p ≤ 1000
theorem Tr.okN_node {rows : Bool} {size : Int} {l r : Tr} : (Tr.node rows size l r).okN ↔ l.okN ∧ r.okN := by
  simp only [Tr.okN, Tr.panes, List.mem_append]
  constructor
  · exact fun h => ⟨fun p hp => h p (.inl hp), fun p hp => h p (.inr hp)⟩
  · rintro ⟨h1, h2⟩ p (hp | hp)
    · exact h1 p hp
    · exact h2 p hp
theorem Tr.fits_okN : ∀ {t : Tr} {w h : Int}, t.fits w h → t.okN
  | .leaf p, w, h, f => fun q hq => by simp only [Tr.panes, List.mem_singleton] at hq; subst hq; exact f.2.2
  | .node rows size l r, w, h, f => Tr.okN_node.2 ⟨Tr.fits_okN f.1, Tr.fits_okN f.2⟩
theorem sizeFit_facts {rows : Bool} {size : Int} {l r : Tr} {w h : Int} (hw : (Tr.node rows size l r).needW ≤ w) (hh : (Tr.node rows size l r).needH ≤ h) :
    l.needW ≤ lwOf rows (sizeFit rows size l r w h) w ∧ l.needH ≤ lhOf rows (sizeFit rows size l r w h) h ∧ r.needW ≤ rwOf rows (sizeFit rows size l r w h) w ∧ r.needH ≤ rhOf rows (sizeFit rows size l r w h) h := by
  cases rows <;> simp only [Tr.needW, Tr.needH, lwOf, lhOf, rwOf, rhOf, sizeFit, Bool.false_eq_true, if_false, if_true] at hw hh ⊢ <;> omega
theorem Tr.fit_fits : ∀ (t : Tr) (w h : Int), t.okN → t.needW ≤ w → t.needH ≤ h → (t.fit w h).fits w h
  | .leaf p, w, h, ho, hw, hh => ⟨hw, hh, ho p (by simp [Tr.panes])⟩
  | .node rows size l r, w, h, ho, hw, hh => by
    obtain ⟨f1, f2, f3, f4⟩ := sizeFit_facts hw hh
    exact ⟨l.fit_fits _ _ (Tr.okN_node.1 ho).1 f1 f2, r.fit_fits _ _ (Tr.okN_node.1 ho).2 f3 f4⟩
/-- the reference's size: the same, where both parts can have what they need -/
theorem sizeFit_spec {rows : Bool} {size : Int} {l r : Tr} {w h : Int} (hw : (Tr.node rows size l r).needW ≤ w) (hh : (Tr.node rows size l r).needH ≤ h) :
    sizeFit rows size l r w h = if rows then min (max size l.needH) (h - r.needH) else min (max size l.needW) (w - r.needW) := by
  cases rows <;> simp only [Tr.needW, Tr.needH, sizeFit, Bool.false_eq_true, if_false, if_true] at hw hh ⊢ <;> omega

/-- a leaf of that number -/
def Tr.isL : Tr → Int → Bool
  | .leaf q, p => decide (q = p)
  | .node _ _ _ _, _ => false
theorem Tr.isL_eq {t : Tr} {p : Int} (h : t.isL p = true) : t = .leaf p := by
  cases t with
  | leaf q => simp only [Tr.isL, decide_eq_true_eq] at h; rw [h]
  | node _ _ _ _ => cases h
theorem Tr.isL_mem {t : Tr} {p : Int} (h : t.isL p = true) : p ∈ t.panes := by rw [Tr.isL_eq h]; simp [Tr.panes]
def Tr.kill (p : Int) : Tr → Tr
  | .leaf q => .leaf q
  | .node rows size l r => if l.isL p then r else if r.isL p then l else .node rows size (l.kill p) (r.kill p)
theorem Tr.kill_none : ∀ {t : Tr} {p : Int}, p ∉ t.panes → t.kill p = t
  | .leaf q, p, _ => rfl
  | .node rows size l r, p, h => by
    simp only [Tr.panes, List.mem_append, not_or] at h
    have h1 : l.isL p = false := by cases e : l.isL p; rfl; exact absurd (Tr.isL_mem e) h.1
    have h2 : r.isL p = false := by cases e : r.isL p; rfl; exact absurd (Tr.isL_mem e) h.2
    simp only [Tr.kill, h1, h2, Tr.kill_none h.1, Tr.kill_none h.2, Bool.false_eq_true, if_false]
/-- what is left: the panes without that one, a leaf less, no more need -/
theorem Tr.kill_facts : ∀ {t : Tr} {p : Int}, t.panes.Nodup → p ∈ t.panes → t.leaves ≠ 1 → (t.kill p).panes = t.panes.erase p ∧ (t.kill p).leaves + 1 = t.leaves ∧ (t.kill p).needW ≤ t.needW ∧ (t.kill p).needH ≤ t.needH
  | .leaf q, p, _, _, h => absurd rfl h
  | .node rows size l r, p, hn, hp, _ => by
    simp only [Tr.panes] at hn hp
    obtain ⟨n1, n2, n3⟩ := List.nodup_append.1 hn
    have hl := l.need_two
    have hr := r.need_two
    have hll := l.leaves_pos
    have hrl := r.leaves_pos
    by_cases h1 : l.isL p = true
    · have e := Tr.isL_eq h1
      subst e
      simp only [Tr.kill, h1, if_true, Tr.panes, Tr.leaves, Tr.needW, Tr.needH, List.cons_append, List.nil_append, List.erase_cons_head]
      refine ⟨trivial, by omega, ?_, ?_⟩ <;> cases rows <;> simp <;> omega
    · by_cases h2 : r.isL p = true
      · have e := Tr.isL_eq h2
        subst e
        have hpl : p ∉ l.panes := fun h => n3 p h p (by simp [Tr.panes]) rfl
        simp only [Tr.kill, h1, h2, if_true, Bool.false_eq_true, if_false, Tr.panes, Tr.leaves, Tr.needW, Tr.needH]
        refine ⟨by rw [List.erase_append_right _ hpl]; simp, trivial, ?_, ?_⟩ <;> cases rows <;> simp <;> omega
      · simp only [Tr.kill, h1, h2, Bool.false_eq_true, if_false, Tr.panes, Tr.leaves, Tr.needW, Tr.needH]
        rcases List.mem_append.1 hp with h | h
        · have hpr : p ∉ r.panes := fun h' => n3 p h p h' rfl
          have hl1 : l.leaves ≠ 1 := by
            cases l with
            | leaf q => simp only [Tr.panes, List.mem_singleton] at h; subst h; simp [Tr.isL] at h1
            | node _ _ a b => have := a.leaves_pos; have := b.leaves_pos; simp only [Tr.leaves]; omega
          obtain ⟨k1, k2, k3, k4⟩ := Tr.kill_facts n1 h hl1
          rw [Tr.kill_none hpr, k1, List.erase_append_left _ h]
          refine ⟨rfl, by omega, ?_, ?_⟩ <;> cases rows <;> simp <;> omega
        · have hpl : p ∉ l.panes := fun h' => n3 p h' p h rfl
          have hr1 : r.leaves ≠ 1 := by
            cases r with
            | leaf q => simp only [Tr.panes, List.mem_singleton] at h; subst h; simp [Tr.isL] at h2
            | node _ _ a b => have := a.leaves_pos; have := b.leaves_pos; simp only [Tr.leaves]; omega
          obtain ⟨k1, k2, k3, k4⟩ := Tr.kill_facts n2 h hr1
          rw [Tr.kill_none hpl, k1, List.erase_append_right _ hpl]
          refine ⟨rfl, by omega, ?_, ?_⟩ <;> cases rows <;> simp <;> omega

/-- the split that a pane is a part of, moved -/
def Tr.move (p by_ : Int) : Tr → Tr
  | .leaf q => .leaf q
  | .node rows size l r => if l.isL p || r.isL p then .node rows (size + by_) l r else if p ∈ l.panes then .node rows size (l.move p by_) r else .node rows size l (r.move p by_)
theorem Tr.move_same (p by_ : Int) : ∀ t : Tr, (t.move p by_).panes = t.panes ∧ (t.move p by_).leaves = t.leaves ∧ (t.move p by_).needW = t.needW ∧ (t.move p by_).needH = t.needH
  | .leaf _ => ⟨rfl, rfl, rfl, rfl⟩
  | .node rows size l r => by
    obtain ⟨a1, a2, a3, a4⟩ := l.move_same p by_
    obtain ⟨b1, b2, b3, b4⟩ := r.move_same p by_
    simp only [Tr.move]
    split
    · exact ⟨rfl, rfl, rfl, rfl⟩
    · split
      · simp only [Tr.panes, Tr.leaves, Tr.needW, Tr.needH, a1, a2, a3, a4, and_self]
      · simp only [Tr.panes, Tr.leaves, Tr.needW, Tr.needH, b1, b2, b3, b4, and_self]

/-- a pane's place parted in two -/
def Tr.split (p fresh : Int) (rw_ : Bool) : Tr → Int → Int → Tr
  | .leaf q, w, h => if q = p then .node rw_ (if rw_ then h / 2 else w / 2) (.leaf p) (.leaf fresh) else .leaf q
  | .node rows size l r, w, h => .node rows size (l.split p fresh rw_ (lwOf rows size w) (lhOf rows size h)) (r.split p fresh rw_ (rwOf rows size w) (rhOf rows size h))
theorem Tr.split_none {p fresh : Int} {rw_ : Bool} : ∀ {t : Tr} {w h : Int}, p ∉ t.panes → t.split p fresh rw_ w h = t
  | .leaf q, w, h, hn => by simp only [Tr.panes, List.mem_singleton] at hn; simp only [Tr.split]; rw [if_neg (fun e => hn e.symm)]
  | .node rows size l r, w, h, hn => by
    simp only [Tr.panes, List.mem_append, not_or] at hn
    simp only [Tr.split, Tr.split_none hn.1, Tr.split_none hn.2]
/-- the place of a pane: columns or rows -/
def Tr.whole (p : Int) (rw_ : Bool) : Tr → Int → Int → Int
  | .leaf _, w, h => if rw_ then h else w
  | .node rows size l r, w, h => if p ∈ l.panes then l.whole p rw_ (lwOf rows size w) (lhOf rows size h) else r.whole p rw_ (rwOf rows size w) (rhOf rows size h)
theorem Tr.split_facts {p fresh : Int} {rw_ : Bool} : ∀ {t : Tr} {w h : Int}, t.panes.Nodup → p ∈ t.panes → (∀ q, q ∈ (t.split p fresh rw_ w h).panes ↔ q ∈ t.panes ∨ q = fresh) ∧ (t.split p fresh rw_ w h).leaves = t.leaves + 1 ∧ (fresh ∉ t.panes → (t.split p fresh rw_ w h).panes.Nodup)
  | .leaf q, w, h, hn, hp => by
    simp only [Tr.panes, List.mem_singleton] at hp
    subst hp
    simp only [Tr.split, if_true, Tr.panes, Tr.leaves, List.cons_append, List.nil_append, List.mem_cons, List.not_mem_nil, or_false]
    exact ⟨fun q => trivial, trivial, fun h => by simp at h ⊢; exact fun e => h e.symm⟩
  | .node rows size l r, w, h, hn, hp => by
    simp only [Tr.panes] at hn hp
    obtain ⟨n1, n2, n3⟩ := List.nodup_append.1 hn
    simp only [Tr.split, Tr.panes, Tr.leaves, List.mem_append]
    rcases List.mem_append.1 hp with h1 | h1
    · have hpr : p ∉ r.panes := fun h' => n3 p h1 p h' rfl
      rw [Tr.split_none hpr]
      obtain ⟨k1, k2, k3⟩ := Tr.split_facts (fresh := fresh) (rw_ := rw_) (w := lwOf rows size w) (h := lhOf rows size h) n1 h1
      refine ⟨fun q => by rw [k1]; constructor <;> (rintro (h | h) <;> first | exact .inr h | skip) <;> first | (rcases h with h | h; exact .inl (.inl h); exact .inr h) | (exact .inl (.inr h)) | (rcases h with h | h; exact .inl (.inl h); exact .inr h) | (exact .inl (.inr h)), by omega, fun hf => ?_⟩
      simp only [not_or] at hf
      refine List.nodup_append.2 ⟨k3 hf.1, n2, fun a ha b hb e => ?_⟩
      subst e
      rcases (k1 a).1 ha with h | h
      · exact n3 a h a hb rfl
      · subst h; exact hf.2 hb
    · have hpl : p ∉ l.panes := fun h' => n3 p h' p h1 rfl
      rw [Tr.split_none hpl]
      obtain ⟨k1, k2, k3⟩ := Tr.split_facts (fresh := fresh) (rw_ := rw_) (w := rwOf rows size w) (h := rhOf rows size h) n2 h1
      refine ⟨fun q => by rw [k1]; exact or_assoc.symm, by omega, fun hf => ?_⟩
      simp only [not_or] at hf
      refine List.nodup_append.2 ⟨n1, k3 hf.2, fun a ha b hb e => ?_⟩
      subst e
      rcases (k1 a).1 hb with h | h
      · exact n3 a ha a h rfl
      · subst h; exact hf.1 ha
/-- the parted layout fits just where both halves have two -/
theorem Tr.split_fits {p fresh : Int} {rw_ : Bool} (hf1 : 1 ≤ fresh) (hf2 : fresh ≤ 1000) : ∀ {t : Tr} {w h : Int}, t.panes.Nodup → p ∈ t.panes → t.fits w h → ((t.split p fresh rw_ w h).fits w h ↔ 2 ≤ t.whole p rw_ w h / 2)
  | .leaf q, w, h, hn, hp, hf => by
    simp only [Tr.panes, List.mem_singleton] at hp
    subst hp
    obtain ⟨f1, f2, f3, f4⟩ := hf
    simp only [Tr.split, if_true, Tr.fits, Tr.whole]
    cases rw_ <;> simp [lwOf, lhOf, rwOf, rhOf] <;> omega
  | .node rows size l r, w, h, hn, hp, hf => by
    simp only [Tr.panes] at hn hp
    obtain ⟨n1, n2, n3⟩ := List.nodup_append.1 hn
    simp only [Tr.split, Tr.fits, Tr.whole]
    by_cases h1 : p ∈ l.panes
    · have hpr : p ∉ r.panes := fun h' => n3 p h1 p h' rfl
      rw [Tr.split_none hpr, if_pos h1, ← Tr.split_fits hf1 hf2 n1 h1 hf.1]
      exact ⟨fun h => h.1, fun h => ⟨h, hf.2⟩⟩
    · have h2 : p ∈ r.panes := (List.mem_append.1 hp).resolve_left h1
      rw [Tr.split_none h1, if_neg h1, ← Tr.split_fits hf1 hf2 n2 h2 hf.2]
      exact ⟨fun h => h.2, fun h => ⟨hf.1, h⟩⟩
theorem Tr.split_okP {p fresh : Int} {rw_ : Bool} (hf : fresh ≠ 0) : ∀ {t : Tr} {w h : Int}, t.fits w h → w ≤ 24 → h ≤ 24 → (t.split p fresh rw_ w h).okP
  | .leaf q, w, h, f, hw, hh => by
    obtain ⟨f1, f2, f3, f4⟩ := f
    simp only [Tr.split]
    by_cases e : q = p
    · rw [if_pos e]
      refine ⟨?_, ?_, by show p ≠ 0; omega, hf⟩ <;> cases rw_ <;> simp <;> omega
    · rw [if_neg e]; show q ≠ 0; omega
  | .node rows size l r, w, h, f, hw, hh => by
    have ts := Tr.fits_size f
    refine ⟨by omega, by cases rows <;> simp at ts <;> omega, Tr.split_okP hf f.1 ?_ ?_, Tr.split_okP hf f.2 ?_ ?_⟩
    · unfold lwOf; cases rows <;> simp at ts ⊢ <;> omega
    · unfold lhOf; cases rows <;> simp at ts ⊢ <;> omega
    · unfold rwOf; cases rows <;> simp at ts ⊢ <;> omega
    · unfold rhOf; cases rows <;> simp at ts ⊢ <;> omega
theorem Lay.split_ok {l : List PartV} {w h : Int} {t : Tr} (y : Lay l w h t) {p fresh : Int} {rw_ : Bool} (hf1 : 1 ≤ fresh) (hf2 : fresh ≤ 1000) (hp : p ∈ t.panes) (hf : fresh ∉ t.panes) (hl : t.leaves ≠ 6) :
    okL ((t.split p fresh rw_ w h).parts 0) w h = decide (2 ≤ t.whole p rw_ w h / 2) := by
  have hs := Tr.split_fits (rw_ := rw_) hf1 hf2 y.nd hp y.ft
  obtain ⟨k1, k2, k3⟩ := Tr.split_facts (fresh := fresh) (rw_ := rw_) (w := w) (h := h) y.nd hp
  have hlv := y.lv
  by_cases hw : 2 ≤ t.whole p rw_ w h / 2
  · rw [decide_eq_true hw]
    exact okL_true ⟨y.w1, y.w2, y.h1, y.h2, by omega, rfl, hs.2 hw, k3 hf⟩
  · rw [decide_eq_false hw]
    refine okL_false fun t' y' => hw (hs.1 ?_)
    have hok : (t.split p fresh rw_ w h).okP := Tr.split_okP (by omega) y.ft y.w2 (by have := y.h2; omega)
    rw [parts_inj hok y'.okP y'.eq]
    exact y'.ft
end Go.Proofs.YtaacccooidehlaaDoor
