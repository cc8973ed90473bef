/-
  A slice argument of structs of one-cell fields, opened to its elements' fields (after the guide's extra-structs, section 1); cells of screens. No program. No condition.
-/
import Derived.Test.YtfflmmkkgcijgaaDoorAgg
import Derived.Test.YtfflmmkkgcijgaaDoorCells
import Derived.Deep.Slices
import Derived.Deep.Fields
import Derived.ChangeSame
namespace Go.Proofs.YtfflmmkkgcijgaaDoor
open Go.ChangeShapes Go.WideShapes Go.Deep Go.RowKit
set_option linter.unusedVariables false
section
variable {H : Type} {enc : TypeId × Value → H} {P : Program} {w : World} {base : Nat} {spare : Nat → Bool} {held : Bool}
theorem open_slice_fields {t e : TypeId} {fs : Array Field} {fuel : Nat} {cs : List Value} {x : DataW H × List MemPlace} (ht : P.underlying t = some (.slice e)) (he : P.underlying e = some (.struct fs))
    (hone : oneCellFields P fs = true) (hC : P.cellsOf e = fs.size) (h : DataW.trod enc P w base spare held fuel t cs = some x) :
    (cs = [.slice none 0 0] ∧ x = (.nil, [])) ∨
    ∃ (a : Addr) (len cap m : Nat) (D : Nat → DataW H) (Pl : Nat → List MemPlace), cs = [.slice (some a) len cap] ∧ base ≤ a.block ∧ len ≤ cap ∧ cap ≤ maxLen ∧ m = (if spare a.block then cap else len) ∧
      x = (.slice ((List.range len).map D) ((List.range (m - len)).map fun j => D (len + j)), MemPlace.row a (m * fs.size) ++ (List.range m).flatMap Pl) ∧
      ∀ i, i < m → ∃ (ys : List (DataW H × List MemPlace)) (n : Nat), D i = .agg (ys.map (·.1)) ∧ Pl i = ys.flatMap (·.2) ∧ ys.length = fs.size ∧
        ∀ (j : Nat) (f : Field), fs[j]? = some f → ∃ (v : Value) (y : DataW H × List MemPlace), w.cell? (a.add (i * fs.size + j)) = some v ∧ ys[j]? = some y ∧ DataW.trod enc P w base spare held n f.type [v] = some y := by
  rcases open_slice ht h with h0 | ⟨a, len, cap, m, n, D, Pl, hcs, hb, hl, hm, hmm, hx, hi⟩
  · exact .inl h0
  · refine .inr ⟨a, len, cap, m, D, Pl, hcs, hb, hl, hm, hmm, by rw [hC] at hx; exact hx, fun i him => ?_⟩
    obtain ⟨cs', hc, ht'⟩ := hi i him
    rw [hC] at hc
    obtain ⟨ys, n', hn', hy, hlen, hyl, hf⟩ := DataW.trod_struct he ht'
    obtain ⟨_, hcl, hat⟩ := World.cells?_some hc
    simp only [Prod.mk.injEq] at hy
    refine ⟨ys, n', hy.1, hy.2, hyl, fun j f hj => ?_⟩
    obtain ⟨ho, hk⟩ := hone_of hone j f hj
    have hjl : j < fs.size := (Array.getElem?_eq_some_iff.1 hj).1
    have hcell := hat j hjl
    have hv : cs'[j]? = some (cs'[j]'(by omega)) := List.getElem?_eq_getElem (by omega)
    have h1 := hf j f hj
    rw [ho, hk] at h1
    have hone' : (cs'.drop j).take 1 = [cs'[j]'(by omega)] := by
      rw [List.drop_eq_getElem_cons (by omega)]
      rfl
    rw [hone'] at h1
    have hys : ys[j]? = some (ys[j]'(by omega)) := List.getElem?_eq_getElem (by omega)
    refine ⟨_, _, ?_, hys, h1.trans hys⟩
    rw [← Go.Deep.add_add, hcell, hv]
theorem list_of {α : Type} {Q : Nat → α → Prop} : ∀ (len : Nat), (∀ i, i < len → ∃ c, Q i c) → ∃ zs : List α, zs.length = len ∧ ∀ i (hi : i < zs.length), Q i zs[i]
  | 0, _ => ⟨[], rfl, fun i hi => by simp at hi⟩
  | len + 1, h => by
    obtain ⟨zs, hl, hz⟩ := list_of len (fun i hi => h i (by omega))
    obtain ⟨c, hc⟩ := h len (by omega)
    refine ⟨zs ++ [c], by simp [hl], fun i hi => ?_⟩
    by_cases e : i < zs.length
    · rw [List.getElem_append_left e]; exact hz i e
    · have e2 : i = len := by simp at hi; omega
      subst e2
      rw [List.getElem_append_right (by omega)]
      simpa [hl] using hc
theorem at_cells2 {b off : Nat} {zs : List (Int × Int)} (h : ∀ k (hk : k < zs.length), w.cell? ⟨b, off + k * 2, none⟩ = some (.int .i64 zs[k].1) ∧ w.cell? ⟨b, off + k * 2 + 1, none⟩ = some (.int .i64 zs[k].2)) : At w (some ⟨b, off, none⟩) (cellsV zs) := by
  refine .inr ⟨b, off, rfl, fun i hi => ?_⟩
  have hl := length_cellsV zs
  have hk : i / 2 < zs.length := by omega
  obtain ⟨h1, h2⟩ := h (i / 2) hk
  obtain ⟨g1, g2⟩ := cellsV_get zs (i / 2) hk
  rcases Nat.mod_two_eq_zero_or_one i with e | e
  · have e2 : i = 2 * (i / 2) := by omega
    have e3 : off + i / 2 * 2 = off + i := by omega
    rw [e3] at h1
    rw [h1, ← g1, ← List.getElem?_eq_getElem hi]
    congr 1; omega
  · have e3 : off + i / 2 * 2 + 1 = off + i := by omega
    rw [e3] at h2
    rw [h2, ← g2, ← List.getElem?_eq_getElem hi]
    congr 1; omega
theorem one_cells {t e : TypeId} {f0 f1 : Field} {fuel : Nat} {v : Value} {x : DataW H × List MemPlace} (ht : P.underlying t = some (.slice e)) (he : P.underlying e = some (.struct #[f0, f1])) (hone : oneCellFields P #[f0, f1] = true) (hC : P.cellsOf e = 2)
    (h0 : P.underlying f0.type = some (.int .i64)) (h1 : P.underlying f1.type = some (.int .i64)) (hsp : ∀ b, spare b = true) (h : DataW.trod enc P w base spare held fuel t [v] = some x) :
    ∃ a len cap zs, v = .slice a len cap ∧ At w a (cellsV zs) ∧ zs.length = len ∧ len ≤ maxLen ∧ len ≤ cap := by
  rcases open_slice_fields ht he hone hC h with ⟨hcs, _⟩ | ⟨a, len, cap, m, D, Pl, hcs, _, hl, hm, hmm, _, hi⟩
  · obtain rfl : v = .slice none 0 0 := by simpa using hcs
    exact ⟨none, 0, 0, [], rfl, .inl rfl, rfl, Nat.zero_le _, Nat.zero_le _⟩
  · obtain rfl : v = .slice (some a) len cap := by simpa using hcs
    have hlm : len ≤ m := by rw [hmm, hsp]; exact hl
    obtain ⟨zs, hzl, hz⟩ := list_of (Q := fun i (c : Int × Int) => w.cell? (a.add (i * 2)) = some (.int .i64 c.1) ∧ w.cell? (a.add (i * 2 + 1)) = some (.int .i64 c.2)) len (fun i hil => by
      obtain ⟨ys, n, _, _, _, hf⟩ := hi i (by omega)
      obtain ⟨v0, y0, c0, _, t0⟩ := hf 0 f0 rfl
      obtain ⟨v1, y1, c1, _, t1⟩ := hf 1 f1 rfl
      obtain ⟨n0, rfl, _⟩ := one_int h0 t0
      obtain ⟨n1, rfl, _⟩ := one_int h1 t1
      exact ⟨(n0, n1), c0, c1⟩)
    refine ⟨_, _, _, zs, rfl, ?_, hzl, by omega, hl⟩
    by_cases h00 : len = 0
    · have : zs = [] := List.length_eq_zero_iff.1 (by omega)
      subst this; exact .inl rfl
    · obtain ⟨b, off, spot⟩ := a
      have hspot : spot = none := by simpa [Addr.add] using World.cell?_spot (hz 0 (by omega)).1
      subst hspot
      refine at_cells2 (fun k hk => ?_)
      have e1 : ∀ j, (⟨b, off, none⟩ : Addr).add j = ⟨b, off + j, none⟩ := fun j => by unfold Addr.add; split <;> simp_all
      obtain ⟨g1, g2⟩ := hz k hk
      rw [e1] at g1 g2
      exact ⟨g1, by rw [Nat.add_assoc]; exact g2⟩
end
end Go.Proofs.YtfflmmkkgcijgaaDoor
