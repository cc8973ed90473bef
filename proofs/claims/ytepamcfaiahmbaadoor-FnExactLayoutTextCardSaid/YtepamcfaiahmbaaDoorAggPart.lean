/-
  A slice argument of structs of one-cell fields, opened to its elements' fields (after the guide's extra-structs, section 1); parts of layouts. No program. No condition.
-/
import Derived.Test.YtepamcfaiahmbaaDoorAgg
import Derived.Test.YtepamcfaiahmbaaDoorLayPart
import Derived.Deep.Slices
import Derived.Deep.Fields
import Derived.ChangeSame
namespace Go.Proofs.YtepamcfaiahmbaaDoor
open Go.ChangeShapes Go.WideShapes Go.Deep Go.RowKit
set_option linter.unusedVariables false
section
variable {H : Type} {enc : TypeId × Value → H} {P : Program} {w : World} {base : Nat} {spare : Nat → Bool} {held : Bool}
theorem open_slice_fields {t e : TypeId} {fs : Array Field} {fuel : Nat} {cs : List Value} {x : DataW H × List MemPlace} (ht : P.underlying t = some (.slice e)) (he : P.underlying e = some (.struct fs))
    (hone : oneCellFields P fs = true) (hC : P.cellsOf e = fs.size) (h : DataW.trod enc P w base spare held fuel t cs = some x) :
    (cs = [.slice none 0 0] ∧ x = (.nil, [])) ∨
    ∃ (a : Addr) (len cap m : Nat) (D : Nat → DataW H) (Pl : Nat → List MemPlace), cs = [.slice (some a) len cap] ∧ base ≤ a.block ∧ len ≤ cap ∧ cap ≤ maxLen ∧ m = (if spare a.block then cap else len) ∧
      x = (.slice ((List.range len).map D) ((List.range (m - len)).map fun j => D (len + j)), MemPlace.row a (m * fs.size) ++ (List.range m).flatMap Pl) ∧
      ∀ i, i < m → ∃ (ys : List (DataW H × List MemPlace)) (n : Nat), D i = .agg (ys.map (·.1)) ∧ Pl i = ys.flatMap (·.2) ∧ ys.length = fs.size ∧
        ∀ (j : Nat) (f : Field), fs[j]? = some f → ∃ (v : Value) (y : DataW H × List MemPlace), w.cell? (a.add (i * fs.size + j)) = some v ∧ ys[j]? = some y ∧ DataW.trod enc P w base spare held n f.type [v] = some y := by
  rcases open_slice ht h with h0 | ⟨a, len, cap, m, n, D, Pl, hcs, hb, hl, hm, hmm, hx, hi⟩
  · exact .inl h0
  · refine .inr ⟨a, len, cap, m, D, Pl, hcs, hb, hl, hm, hmm, by rw [hC] at hx; exact hx, fun i him => ?_⟩
    obtain ⟨cs', hc, ht'⟩ := hi i him
    rw [hC] at hc
    obtain ⟨ys, n', hn', hy, hlen, hyl, hf⟩ := DataW.trod_struct he ht'
    obtain ⟨_, hcl, hat⟩ := World.cells?_some hc
    simp only [Prod.mk.injEq] at hy
    refine ⟨ys, n', hy.1, hy.2, hyl, fun j f hj => ?_⟩
    obtain ⟨ho, hk⟩ := hone_of hone j f hj
    have hjl : j < fs.size := (Array.getElem?_eq_some_iff.1 hj).1
    have hcell := hat j hjl
    have hv : cs'[j]? = some (cs'[j]'(by omega)) := List.getElem?_eq_getElem (by omega)
    have h1 := hf j f hj
    rw [ho, hk] at h1
    have hone' : (cs'.drop j).take 1 = [cs'[j]'(by omega)] := by
      rw [List.drop_eq_getElem_cons (by omega)]
      rfl
    rw [hone'] at h1
    have hys : ys[j]? = some (ys[j]'(by omega)) := List.getElem?_eq_getElem (by omega)
    refine ⟨_, _, ?_, hys, h1.trans hys⟩
    rw [← Go.Deep.add_add, hcell, hv]
theorem list_of {α : Type} {Q : Nat → α → Prop} : ∀ (len : Nat), (∀ i, i < len → ∃ c, Q i c) → ∃ zs : List α, zs.length = len ∧ ∀ i (hi : i < zs.length), Q i zs[i]
  | 0, _ => ⟨[], rfl, fun i hi => by simp at hi⟩
  | len + 1, h => by
    obtain ⟨zs, hl, hz⟩ := list_of len (fun i hi => h i (by omega))
    obtain ⟨c, hc⟩ := h len (by omega)
    refine ⟨zs ++ [c], by simp [hl], fun i hi => ?_⟩
    by_cases e : i < zs.length
    · rw [List.getElem_append_left e]; exact hz i e
    · have e2 : i = len := by simp at hi; omega
      subst e2
      rw [List.getElem_append_right (by omega)]
      simpa [hl] using hc
theorem at_parts5 {b off : Nat} {zs : List PartV} (h : ∀ k p, zs[k]? = some p → ∀ j, j < 5 → w.cell? ⟨b, off + k * 5 + j, none⟩ = (partC p)[j]?) : At w (some ⟨b, off, none⟩) (partsV zs) := by
  refine .inr ⟨b, off, rfl, fun i hi => ?_⟩
  have hl := length_partsV zs
  have hk : i / 5 < zs.length := by omega
  have hp : zs[i / 5]? = some zs[i / 5] := List.getElem?_eq_getElem hk
  have h1 := h (i / 5) _ hp (i % 5) (by omega)
  have g1 := partsV_get zs (i / 5) _ hp (i % 5) (by omega)
  rw [show i / 5 * 5 + i % 5 = i from by omega] at g1
  rw [show off + i / 5 * 5 + i % 5 = off + i from by omega] at h1
  rw [h1, ← g1, ← List.getElem?_eq_getElem hi]
theorem one_parts {t e : TypeId} {f0 f1 f2 f3 f4 : Field} {fuel : Nat} {v : Value} {x : DataW H × List MemPlace} (ht : P.underlying t = some (.slice e)) (he : P.underlying e = some (.struct #[f0, f1, f2, f3, f4])) (hone : oneCellFields P #[f0, f1, f2, f3, f4] = true) (hC : P.cellsOf e = 5)
    (h0 : P.underlying f0.type = some (.int .i64)) (h1 : P.underlying f1.type = some .bool) (h2 : P.underlying f2.type = some (.int .i64)) (h3 : P.underlying f3.type = some (.int .i64)) (h4 : P.underlying f4.type = some (.int .i64)) (hsp : ∀ b, spare b = true) (h : DataW.trod enc P w base spare held fuel t [v] = some x) :
    ∃ a len cap zs, v = .slice a len cap ∧ At w a (partsV zs) ∧ zs.length = len ∧ len ≤ maxLen ∧ len ≤ cap := by
  rcases open_slice_fields ht he hone hC h with ⟨hcs, _⟩ | ⟨a, len, cap, m, D, Pl, hcs, _, hl, hm, hmm, _, hi⟩
  · obtain rfl : v = .slice none 0 0 := by simpa using hcs
    exact ⟨none, 0, 0, [], rfl, .inl rfl, rfl, Nat.zero_le _, Nat.zero_le _⟩
  · obtain rfl : v = .slice (some a) len cap := by simpa using hcs
    have hlm : len ≤ m := by rw [hmm, hsp]; exact hl
    obtain ⟨zs, hzl, hz⟩ := list_of (Q := fun i (c : PartV) => w.cell? (a.add (i * 5)) = some (.int .i64 c.pane) ∧ w.cell? (a.add (i * 5 + 1)) = some (.bool c.rows) ∧ w.cell? (a.add (i * 5 + 2)) = some (.int .i64 c.size) ∧ w.cell? (a.add (i * 5 + 3)) = some (.int .i64 c.left) ∧ w.cell? (a.add (i * 5 + 4)) = some (.int .i64 c.right)) len (fun i hil => by
      obtain ⟨ys, n, _, _, _, hf⟩ := hi i (by omega)
      obtain ⟨v0, y0, c0, _, t0⟩ := hf 0 f0 rfl
      obtain ⟨v1, y1, c1, _, t1⟩ := hf 1 f1 rfl
      obtain ⟨v2, y2, c2, _, t2⟩ := hf 2 f2 rfl
      obtain ⟨v3, y3, c3, _, t3⟩ := hf 3 f3 rfl
      obtain ⟨v4, y4, c4, _, t4⟩ := hf 4 f4 rfl
      obtain ⟨n0, rfl, _⟩ := one_int h0 t0
      obtain ⟨n1, rfl⟩ := one_bool h1 t1
      obtain ⟨n2, rfl, _⟩ := one_int h2 t2
      obtain ⟨n3, rfl, _⟩ := one_int h3 t3
      obtain ⟨n4, rfl, _⟩ := one_int h4 t4
      exact ⟨⟨n0, n1, n2, n3, n4⟩, c0, c1, c2, c3, c4⟩)
    refine ⟨_, _, _, zs, rfl, ?_, hzl, by omega, hl⟩
    by_cases h00 : len = 0
    · have : zs = [] := List.length_eq_zero_iff.1 (by omega)
      subst this; exact .inl rfl
    · obtain ⟨b, off, spot⟩ := a
      have hspot : spot = none := by simpa [Addr.add] using World.cell?_spot (hz 0 (by omega)).1
      subst hspot
      refine at_parts5 (fun k p hp j hj => ?_)
      have e1 : ∀ j, (⟨b, off, none⟩ : Addr).add j = ⟨b, off + j, none⟩ := fun j => by unfold Addr.add; split <;> simp_all
      obtain ⟨hk, rfl⟩ := List.getElem?_eq_some_iff.1 hp
      obtain ⟨g0, g1, g2, g3, g4⟩ := hz k hk
      rw [e1] at g0 g1 g2 g3 g4
      have hj' : j = 0 ∨ j = 1 ∨ j = 2 ∨ j = 3 ∨ j = 4 := by omega
      rcases hj' with rfl | rfl | rfl | rfl | rfl
      · exact g0
      · rw [Nat.add_assoc]; exact g1
      · rw [Nat.add_assoc]; exact g2
      · rw [Nat.add_assoc]; exact g3
      · rw [Nat.add_assoc]; exact g4
end
end Go.Proofs.YtepamcfaiahmbaaDoor
