/-
  Contract of the given program's partAt: a list of parts read as a tree. Conditions: the parts lie as the cells say.
-/
import Derived.Test.YtaacccooidehlaaDoorLayAreas
namespace Go.Proofs.YtaacccooidehlaaDoor
open Go.ChangeShapes Go.WideShapes Go.ChangeAt Go.RowKit
set_option linter.unusedVariables false
set_option linter.unusedSimpArgs false
set_option maxRecDepth 100000

def partC (p : PartV) : List Value := [.int .i64 p.pane, .bool p.rows, .int .i64 p.size, .int .i64 p.left, .int .i64 p.right]
def partsV (l : List PartV) : List Value := l.flatMap partC
theorem length_partsV (l : List PartV) : (partsV l).length = l.length * 5 := by
  induction l with
  | nil => rfl
  | cons a l ih => simp only [partsV, List.flatMap_cons, List.length_append] at ih ⊢; rw [ih]; simp only [partC, List.length_cons, List.length_nil]; omega
theorem partsV_append (a b : List PartV) : partsV (a ++ b) = partsV a ++ partsV b := by simp [partsV]
theorem partsV_get : ∀ (l : List PartV) (k : Nat) (p : PartV), l[k]? = some p → ∀ j, j < 5 → (partsV l)[k * 5 + j]? = (partC p)[j]?
  | [], k, p, h, j, hj => by simp at h
  | a :: l, 0, p, h, j, hj => by
    simp only [List.getElem?_cons_zero, Option.some.injEq] at h
    subst h
    show (partC a ++ partsV l)[0 * 5 + j]? = _
    rw [show 0 * 5 + j = j from by omega, List.getElem?_append_left (by exact hj)]
  | a :: l, k + 1, p, h, j, hj => by
    have := partsV_get l k p (by simpa using h) j hj
    show (partC a ++ partsV l)[(k + 1) * 5 + j]? = _
    rw [List.getElem?_append_right (by show 5 ≤ _; omega), ← this]
    congr 1
    show (k + 1) * 5 + j - 5 = _
    omega
/-- the five cells of a part -/
theorem At.part {w : World} {ao : Option Addr} {l : List PartV} (h : At w ao (partsV l)) {k : Nat} {p : PartV} (hk : l[k]? = some p) :
    ∃ b off, ao = some ⟨b, off, none⟩ ∧ w.cell? ⟨b, off + k * 5, none⟩ = some (.int .i64 p.pane) ∧ w.cell? ⟨b, off + k * 5 + 1, none⟩ = some (.bool p.rows) ∧ w.cell? ⟨b, off + k * 5 + 2, none⟩ = some (.int .i64 p.size) ∧ w.cell? ⟨b, off + k * 5 + 3, none⟩ = some (.int .i64 p.left) ∧ w.cell? ⟨b, off + k * 5 + 4, none⟩ = some (.int .i64 p.right) := by
  have hkl : k < l.length := (List.getElem?_eq_some_iff.1 hk).1
  have hne : partsV l ≠ [] := by intro e; have := congrArg List.length e; rw [length_partsV] at this; simp at this; omega
  obtain ⟨b, off, rfl, hc⟩ := h.get hne
  have g : ∀ j, j < 5 → w.cell? ⟨b, off + (k * 5 + j), none⟩ = (partC p)[j]? := fun j hj => by
    have hlt : k * 5 + j < (partsV l).length := by rw [length_partsV]; omega
    rw [hc _ hlt, ← List.getElem?_eq_getElem hlt, partsV_get l k p hk j hj]
  exact ⟨b, off, rfl, g 0 (by decide), g 1 (by decide), g 2 (by decide), g 3 (by decide), g 4 (by decide)⟩

def PartPost (r : Option (Tr × Nat)) (w : World) (e : Ending) (w' : World) : Prop :=
  Below w.heap.size w w' ∧ ((r = none ∧ ∃ x, e = .returned (.tuple #[.pointer none, .int .i64 x])) ∨
    ∃ t en s, r = some (t, en) ∧ e = .returned (.tuple #[.pointer (some ⟨s.root, 0, none⟩), .int .i64 (en : Nat)]) ∧ TreI w' s t ∧ s.bs.Nodup ∧ ∀ b ∈ s.bs, w.heap.size ≤ b)

set_option maxHeartbeats 4000000 in
theorem partAt_any (ao : Option Addr) (len cap : Nat) (ps : List PartV) (hl : ps.length = len) (hn : len ≤ 1000) (hlc : len ≤ cap) : ∀ (f i : Nat) (w : World), At w ao (partsV ps) → len < f + i → i ≤ 2000 →
    Calls Tryd.prog 37 #[.agg #[.slice ao len cap], .int .i64 i] w (PartPost (parsI ps f i) w) := by
  intro f
  induction f with
  | zero =>
    intro i w ha hf hi
    have HE : Hid (PartPost (parsI ps 0 i) w (.returned (.tuple #[.pointer none, .int .i64 0])) (w.alloc (.cells #[.slice ao len cap] 26))) := ⟨(Below.refl _ _).alloc (Nat.le_refl _) _, .inl ⟨rfl, 0, rfl⟩⟩
    have hge : ¬ i < len := by omega
    go_enter Tryd.func37, Tryd.ntmps37
    go_wp2
    go_ret2
    exact HE.out
  | succ f ih =>
    intro i w ha hf hi
    have HB : Below w.heap.size w (w.alloc (.cells #[.slice ao len cap] 26)) := (Below.refl _ _).alloc (Nat.le_refl _) _
    by_cases hil : i < len
    · obtain ⟨p, hp⟩ : ∃ p, ps[i]? = some p := ⟨ps[i]'(by omega), List.getElem?_eq_getElem _⟩
      obtain ⟨b, off, rfl, c0, c1, c2, c3, c4⟩ := At.part (ha.below HB (Nat.le_refl _)) hp
      obtain ⟨pane, rows, size, left, right⟩ := p
      simp only at c0 c1 c2 c3 c4
      have i1 : (0 : Int) ≤ (i : Int) := by omega
      have i2 : (i : Int) < (len : Int) := by omega
      have HA := Lib.hid ha
      have HIH := Lib.hid ih
      have HPS := Lib.hid hp
      have HLL := Lib.hid hl
      clear ha ih hp hl
      by_cases h0 : pane = 0
      · have b0 : ((pane : Int) != 0) = false := by simp [h0]
        have HP0 := Lib.hid h0
        have HBV : Hid (Below w.heap.size w ((w.alloc (.cells #[.slice (some ⟨b, off, none⟩) len cap] 26)).alloc (.cells #[.int .i64 0, .bool rows, .int .i64 size, .int .i64 left, .int .i64 right] 54))) := HB.alloc (by simp) _
        have HX0 : Hid (((w.alloc (.cells #[.slice (some ⟨b, off, none⟩) len cap] 26)).alloc (.cells #[.int .i64 0, .bool rows, .int .i64 size, .int .i64 left, .int .i64 right] 54)).heap[w.heap.size]? = some (.cells #[.slice (some ⟨b, off, none⟩) len cap] 26 (0, 0))) := by
          show _ = _
          rw [Below.heap_alloc _ _ _ (by simp)]; exact heap_alloc_new w _
        have HX1 : Hid (((w.alloc (.cells #[.slice (some ⟨b, off, none⟩) len cap] 26)).alloc (.cells #[.int .i64 0, .bool rows, .int .i64 size, .int .i64 left, .int .i64 right] 54)).heap[w.heap.size + 1]? = some (.cells #[.int .i64 0, .bool rows, .int .i64 size, .int .i64 left, .int .i64 right] 54 (0, 0))) := by
          show _ = _
          have := heap_alloc_new (w.alloc (.cells #[.slice (some ⟨b, off, none⟩) len cap] 26)) (.cells #[.int .i64 0, .bool rows, .int .i64 size, .int .i64 left, .int .i64 right] 54)
          rwa [World.size_alloc] at this
        have HC1 := Lib.hid (HIH.out (i + 1) _ (HA.out.below HBV.out (Nat.le_refl _)) (by omega) (by omega))
        have hc1 : ((i + 1 : Nat) : Int) = (i : Int) + 1 := by omega
        rw [hc1] at HC1
        rw [h0] at c0
        clear h0 hc1
        go_enter Tryd.func37, Tryd.ntmps37
        go_wp2_with fail
        refine HC1.out.mono ?_
        generalize ((w.alloc (.cells #[.slice (some ⟨b, off, none⟩) len cap] 26)).alloc (.cells #[.int .i64 0, .bool rows, .int .i64 size, .int .i64 left, .int .i64 right] 54)) = V at *
        clear c0 c1 c2 c3 c4
        rintro e w1 ⟨hb1, ⟨hn1, x, rfl⟩ | ⟨ta, na, sa, hr1, rfl, ht1, hnd1, hge1⟩⟩
        · have HR : Hid (parsI ps (f + 1) i = none) := parsI_left HPS.out HP0.out hn1
          have HE : Hid (Below w.heap.size w w1) := HBV.out.trans (hb1.mono HBV.out.size)
          clear hn1 hb1
          go_wp2
          go_ret2
          rw [HR.out]
          exact ⟨HE.out, .inl ⟨rfl, 0, rfl⟩⟩
        · have HB1 : Hid (Below w.heap.size w w1) := HBV.out.trans (hb1.mono HBV.out.size)
          have HX0' : Hid (w1.heap[w.heap.size]? = some (.cells #[.slice (some ⟨b, off, none⟩) len cap] 26 (0, 0))) := (hb1.block _ (box_lt HX0.out)).trans HX0.out
          have HX1' : Hid (w1.heap[w.heap.size + 1]? = some (.cells #[.int .i64 0, .bool rows, .int .i64 size, .int .i64 left, .int .i64 right] 54 (0, 0))) := (hb1.block _ (box_lt HX1.out)).trans HX1.out
          obtain ⟨sp1, sp2, sp3⟩ := parsI_sound ps _ _ _ _ hr1
          have hna : i + 2 ≤ na ∧ na ≤ len := by have := ta.len_pos; have := sp1.le; have := HLL.out; omega
          have HC2 := Lib.hid (HIH.out na w1 (HA.out.below HB1.out (Nat.le_refl _)) (by omega) (by omega))
          have HR1 := Lib.hid hr1
          have HT1 := Lib.hid ht1
          have HN1 := Lib.hid hnd1
          have HG1 : Hid (∀ q ∈ sa.bs, w.heap.size ≤ q) := fun q hq => Nat.le_trans HBV.out.size (hge1 q hq)
          have x0 := box_cells HX0'.out 0
          have x1 := box_cells HX1'.out 1
          have x2 := box_cells HX1'.out 2
          have x3 := box_cells HX1'.out 3
          have x4 := box_cells HX1'.out 4
          simp at x0 x1 x2 x3 x4
          obtain ⟨hna1, hna2⟩ := hna
          clear hb1 sp1 sp2 sp3 hr1 ht1 hnd1 hge1 HC1
          rcases (show ¬ (1 ≤ size ∧ size ≤ 24) ∨ ((1 ≤ size ∧ size ≤ 24) ∧ left ≠ (i : Int) + 1) ∨ ((1 ≤ size ∧ size ≤ 24) ∧ left = (i : Int) + 1 ∧ right ≠ (na : Int)) ∨ ((1 ≤ size ∧ size ≤ 24) ∧ left = (i : Int) + 1 ∧ right = (na : Int)) by omega) with h1 | ⟨h1, h2⟩ | ⟨h1, h2, h3⟩ | ⟨h1, h2, h3⟩
          · have HR : Hid (parsI ps (f + 1) i = none) := parsI_bad2 HPS.out HP0.out HR1.out (.inl h1)
            have hw : (decide (1 ≤ size) && decide (size ≤ 24)) = false := by rw [Bool.eq_false_iff]; simp; omega
            clear h1
            go_wp2_with (go_at_call 36; refine (within_any _ _ _ _).mono ?_; rw [hw]; rintro e w' ⟨rfl, rfl⟩)
            go_ret2
            rw [HR.out]
            exact ⟨HB1.out, .inl ⟨rfl, 0, rfl⟩⟩
          · have HR : Hid (parsI ps (f + 1) i = none) := parsI_bad2 HPS.out HP0.out HR1.out (.inr (.inl (by show left ≠ _; omega)))
            have hw : (decide (1 ≤ size) && decide (size ≤ 24)) = true := by simp; omega
            have hb3 : ((left : Int) != (i : Int) + 1) = true := by simp [h2]
            clear h1 h2
            go_wp2_with (go_at_call 36; refine (within_any _ _ _ _).mono ?_; rw [hw]; rintro e w' ⟨rfl, rfl⟩)
            go_ret2
            rw [HR.out]
            exact ⟨HB1.out, .inl ⟨rfl, 0, rfl⟩⟩
          · have HR : Hid (parsI ps (f + 1) i = none) := parsI_bad2 HPS.out HP0.out HR1.out (.inr (.inr h3))
            have hw : (decide (1 ≤ size) && decide (size ≤ 24)) = true := by simp; omega
            have hb3 : ((left : Int) != (i : Int) + 1) = false := by simp [h2]
            have hb4 : ((right : Int) != (na : Int)) = true := by simp [h3]
            clear h1 h2 h3
            go_wp2_with (go_at_call 36; refine (within_any _ _ _ _).mono ?_; rw [hw]; rintro e w' ⟨rfl, rfl⟩)
            go_ret2
            rw [HR.out]
            exact ⟨HB1.out, .inl ⟨rfl, 0, rfl⟩⟩
          · have hw : (decide (1 ≤ size) && decide (size ≤ 24)) = true := by simp; omega
            have hb3 : ((left : Int) != (i : Int) + 1) = false := by simp [h2]
            have hb4 : ((right : Int) != (na : Int)) = false := by simp [h3]
            have HS1 : Hid (1 ≤ size) := h1.1
            have HS2 : Hid (size ≤ 24) := h1.2
            have HS3 : Hid (left = (i + 1 : Nat)) := by show left = _; omega
            have HS4 : Hid (right = (na : Nat)) := h3
            clear h1 h2 h3
            go_wp2_with (first | (go_at_call 36; refine (within_any _ _ _ _).mono ?_; rw [hw]; rintro e w' ⟨rfl, rfl⟩))
            refine HC2.out.mono ?_
            clear hb3 hb4 hw x0 x1 x2 x3 x4
            rintro e w2 ⟨hb2, ⟨hn2, x, rfl⟩ | ⟨tb, nb, sb, hr2, rfl, ht2, hnd2, hge2⟩⟩
            · have HR : Hid (parsI ps (f + 1) i = none) := parsI_right HPS.out HP0.out HR1.out hn2
              have HE : Hid (Below w.heap.size w w2) := HB1.out.trans (hb2.mono HB1.out.size)
              clear hn2 hb2
              go_wp2
              go_ret2
              rw [HR.out]
              exact ⟨HE.out, .inl ⟨rfl, 0, rfl⟩⟩
            · have HR : Hid (parsI ps (f + 1) i = some (.node rows size ta tb, nb)) := parsI_node HPS.out HP0.out HR1.out HS1.out HS2.out HS3.out HS4.out hr2
              have HB2 : Hid (Below w.heap.size w w2) := HB1.out.trans (hb2.mono HB1.out.size)
              have HX1'' : Hid (w2.heap[w.heap.size + 1]? = some (.cells #[.int .i64 0, .bool rows, .int .i64 size, .int .i64 left, .int .i64 right] 54 (0, 0))) := (hb2.block _ (box_lt HX1'.out)).trans HX1'.out
              have HT1' : Hid (TreI w2 sa ta) := TreG.below HT1.out hb2 (Nat.le_refl _)
              have HL1 : Hid (∀ q ∈ sa.bs, q < w1.heap.size) := TreG.lt HT1.out
              have HT2 := Lib.hid ht2
              have HN2 := Lib.hid hnd2
              have HG2 := Lib.hid hge2
              have x1 := box_cells HX1''.out 1
              have x2 := box_cells HX1''.out 2
              simp at x1 x2
              have hz1 : w.heap.size ≤ w1.heap.size := HB1.out.size
              have hz2 : w1.heap.size ≤ w2.heap.size := hb2.size
              clear hr2 ht2 hnd2 hge2 hb2
              go_wp2
              go_ret2
              rw [HR.out]
              have hbb : Below w.heap.size w (w2.alloc (.cells (areaNd rows size sa.root sb.root) 77)) := HB2.out.alloc (by omega) _
              refine ⟨hbb, .inr ⟨_, _, .nd w2.heap.size sa sb, rfl, rfl, ⟨heap_alloc_new w2 _, TreG.below HT1'.out ((Below.refl _ _).alloc (Nat.le_refl _) _) (Nat.le_refl _), TreG.below HT2.out ((Below.refl _ _).alloc (Nat.le_refl _) _) (Nat.le_refl _)⟩, ?_, ?_⟩⟩
              · simp only [Sh.bs, List.nodup_cons, List.mem_append, not_or]
                refine ⟨⟨fun h => ?_, fun h => ?_⟩, List.nodup_append.2 ⟨HN1.out, HN2.out, fun q hq r hr e => ?_⟩⟩
                · have := TreG.lt HT1'.out _ h; omega
                · have := TreG.lt HT2.out _ h; omega
                · subst e
                  have h1 := HL1.out _ hq
                  have h2 := HG2.out _ hr
                  omega
              · intro q hq
                simp only [Sh.bs, List.mem_cons, List.mem_append] at hq
                rcases hq with rfl | hq | hq
                · omega
                · exact HG1.out q hq
                · exact Nat.le_trans hz1 (HG2.out q hq)
      · have b0 : ((pane : Int) != 0) = true := by simp [h0]
        rcases (show rows = true ∨ (rows = false ∧ size ≠ 0) ∨ (rows = false ∧ size = 0 ∧ left ≠ -1) ∨ (rows = false ∧ size = 0 ∧ left = -1 ∧ right ≠ -1) ∨ (rows = false ∧ size = 0 ∧ left = -1 ∧ right = -1) by
          cases rows <;> simp <;> omega) with h1 | ⟨h1, h2⟩ | ⟨h1, h2, h3⟩ | ⟨h1, h2, h3, h4⟩ | ⟨h1, h2, h3, h4⟩
        · have HR : Hid (parsI ps (f + 1) i = none) := parsI_bad1 HPS.out h0 (.inl h1)
          rw [h1] at c1
          clear h0 h1
          go_enter Tryd.func37, Tryd.ntmps37
          go_wp2
          go_ret2
          rw [HR.out]
          exact ⟨HB.alloc (by simp) _, .inl ⟨rfl, 0, rfl⟩⟩
        · have HR : Hid (parsI ps (f + 1) i = none) := parsI_bad1 HPS.out h0 (.inr (.inl h2))
          have b2 : ((size : Int) != 0) = true := by simp [h2]
          rw [h1] at c1
          clear h0 h1 h2
          go_enter Tryd.func37, Tryd.ntmps37
          go_wp2
          go_ret2
          rw [HR.out]
          exact ⟨HB.alloc (by simp) _, .inl ⟨rfl, 0, rfl⟩⟩
        · have HR : Hid (parsI ps (f + 1) i = none) := parsI_bad1 HPS.out h0 (.inr (.inr (.inl h3)))
          have b3 : ((left : Int) != -1) = true := by simp [h3]
          rw [h1] at c1
          rw [h2] at c2
          clear h0 h1 h2 h3
          go_enter Tryd.func37, Tryd.ntmps37
          go_wp2
          go_ret2
          rw [HR.out]
          exact ⟨HB.alloc (by simp) _, .inl ⟨rfl, 0, rfl⟩⟩
        · have HR : Hid (parsI ps (f + 1) i = none) := parsI_bad1 HPS.out h0 (.inr (.inr (.inr h4)))
          have b4 : ((right : Int) != -1) = true := by simp [h4]
          rw [h1] at c1
          rw [h2] at c2
          rw [h3] at c3
          clear h0 h1 h2 h3 h4
          go_enter Tryd.func37, Tryd.ntmps37
          go_wp2
          go_ret2
          rw [HR.out]
          exact ⟨HB.alloc (by simp) _, .inl ⟨rfl, 0, rfl⟩⟩
        · have HR : Hid (parsI ps (f + 1) i = some (.leaf pane, i + 1)) := parsI_leaf HPS.out h0 h1 h2 h3 h4
          rw [h1] at c1
          rw [h2] at c2
          rw [h3] at c3
          rw [h4] at c4
          clear h0 h1 h2 h3 h4
          go_enter Tryd.func37, Tryd.ntmps37
          go_wp2
          go_ret2
          rw [HR.out]
          have hnew := heap_alloc_new ((w.alloc (.cells #[.slice (some ⟨b, off, none⟩) len cap] 26)).alloc (.cells #[.int .i64 pane, .bool false, .int .i64 0, .int .i64 (-1), .int .i64 (-1)] 54)) (.cells (areaLf pane) 77)
          rw [World.size_alloc, World.size_alloc] at hnew
          exact ⟨(HB.alloc (by simp) _).alloc (by simp; omega) _, .inr ⟨_, _, .lf (w.heap.size + 1 + 1), rfl, rfl, hnew, by simp [Sh.bs], fun q hq => by simp [Sh.bs] at hq; omega⟩⟩
    · have HE : Hid (PartPost (parsI ps (f + 1) i) w (.returned (.tuple #[.pointer none, .int .i64 0])) (w.alloc (.cells #[.slice ao len cap] 26))) := ⟨HB, .inl ⟨by unfold parsI; rw [List.getElem?_eq_none (by omega)], 0, rfl⟩⟩
      clear ih hf
      go_enter Tryd.func37, Tryd.ntmps37
      go_wp2
      go_ret2
      exact HE.out
end Go.Proofs.YtaacccooidehlaaDoor
