/-
  'copy(dst, src)' of elements of any number of cells, as a law for the walk and as a step of a region that draws its order; what a slice holds behind it. No program. Conditions: the cells are there and may be written.
-/
import Derived.Test.YtfpbboldfilhlaaDoorSlices
import Derived.Laws.IdiomCopy
import Derived.Laws.CopyOwn
import Derived.Deep.RegionLaw
namespace Go.Proofs.YtfpbboldfilhlaaDoor
open Go.ChangeShapes Go.WideShapes Go.ChangeAt Go.RowKit
set_option linter.unusedVariables false

theorem run_copy_cellsZ {P : Program} (w : World) (dT sT ty elem : TypeId) (z b o dLen dCap : Nat) (a : Addr) (sLen sCap : Nat) (cs : List Value)
    (hu : P.underlying dT = some (.slice elem)) (hs : (P.info? elem).map (·.size) = some z) (hn : cs.length = Nat.min sLen dLen * z)
    (hsrc : ∀ j v, cs[j]? = some v → w.cell? (a.add j) = some v) (hc : ∀ j, j < cs.length → (w.cell? ⟨b, o + j, none⟩).isSome = true) (hf : ∀ j, j < cs.length → w.frozen? ⟨b, o + j, none⟩ = false) (h1 : ∀ v ∈ cs, v.oneCell' = true) :
    (Builtin.copy_ #[dT, sT] ty #[.slice (some ⟨b, o, none⟩) dLen dCap, .slice (some a) sLen sCap]).run P w = .ok (goInt (Nat.min sLen dLen)) (w.setCells b o cs) := by
  have hl := run_loadCells_list (P := P) w a cs hsrc
  have hst := run_storeCells_cells (P := P) b o cs 0 w (by simpa using hc) (by simpa using hf) h1
  cases hq : P.info? elem with
  | none => simp [hq] at hs
  | some i =>
    have hi : i.size = z := by simpa [hq] using hs
    simp [Builtin.copy_, run_underlying hu, Builtin.lenOf, Builtin.firstCells, sizeOf, typeInfo, hq, hi, ← hn, hl, hst]

def setsL : List Value → Nat → List Value → List Value
  | xs, _, [] => xs
  | xs, k, v :: vs => setsL (xs.set k v) (k + 1) vs
theorem setsL_eq : ∀ (vs : List Value) (xs : List Value) (k : Nat), k + vs.length ≤ xs.length → setsL xs k vs = xs.take k ++ (vs ++ xs.drop (k + vs.length))
  | [], xs, k, _ => by simp [setsL]
  | v :: vs, xs, k, h => by
    have h' : k < xs.length := by simp at h; omega
    rw [setsL, setsL_eq vs (xs.set k v) (k + 1) (by simp at h ⊢; omega)]
    have e1 : (xs.set k v).take (k + 1) = xs.take k ++ [v] := by
      apply List.ext_getElem?
      intro j
      simp only [List.getElem?_take, List.getElem?_set, List.getElem?_append, List.length_take]
      by_cases hj : j < k
      · have : min k xs.length = k := by omega
        simp [hj, this, Nat.ne_of_gt hj]
        omega
      · by_cases hj2 : j = k
        · subst hj2
          have : min j xs.length = j := by omega
          simp [this, h']
        · have : min k xs.length = k := by omega
          have h3 : ¬ j < k + 1 := by omega
          simp [hj, this, h3]
          omega
    have e2 : (xs.set k v).drop (k + 1 + vs.length) = xs.drop (k + (vs.length + 1)) := by
      apply List.ext_getElem?
      intro j
      simp only [List.getElem?_drop, List.getElem?_set]
      have : ¬ k = k + 1 + vs.length + j := by omega
      simp [this]
      congr 1
      omega
    rw [e1, e2]; simp
theorem stores_cells {b off : Nat} : ∀ (vs : List Value) (k : Nat) (xs : List Value) (w : World), (∀ i (h : i < xs.length), w.cell? ⟨b, off + i, none⟩ = some xs[i] ∧ w.frozen? ⟨b, off + i, none⟩ = false) →
    ∀ i (h : i < (setsL xs k vs).length), (w.setCells b (off + k) vs).cell? ⟨b, off + i, none⟩ = some (setsL xs k vs)[i] ∧ (w.setCells b (off + k) vs).frozen? ⟨b, off + i, none⟩ = false
  | [], k, xs, w, h => h
  | v :: vs, k, xs, w, h => by
    have h2 := Mine.store (B := 0) (Nat.zero_le _) h k v
    have := stores_cells vs (k + 1) (xs.set k v) (w.setCell ⟨b, off + k, none⟩ v) h2
    exact this
theorem grownBy_setCells {b : Nat} : ∀ (vs : List Value) (o : Nat) (w : World), w.grownBy (w.setCells b o vs) (some b)
  | [], o, w => grownBy_refl w _
  | v :: vs, o, w => grownBy_trans grownBy_setCell (grownBy_setCells vs (o + 1) _)
theorem below_setCells {B b : Nat} {w0 : World} (hB : B ≤ b) : ∀ (vs : List Value) (o : Nat) (w : World), Below B w0 w → Below B w0 (w.setCells b o vs)
  | [], o, w, hb => hb
  | v :: vs, o, w, hb => below_setCells hB vs (o + 1) _ (hb.setCell (p := ⟨b, o, none⟩) hB v)
theorem size_setCells {b : Nat} : ∀ (vs : List Value) (o : Nat) (w : World), (w.setCells b o vs).heap.size = w.heap.size
  | [], o, w => rfl
  | v :: vs, o, w => by rw [World.setCells, size_setCells vs (o + 1)]; simp [World.setCell]
/-- a slice known at its cells, behind a copy into it from place k on -/
theorem mine_setCells {B b off : Nat} {w : World} {xs : List Value} (hB : B ≤ b) (h : ∀ i (h : i < xs.length), w.cell? ⟨b, off + i, none⟩ = some xs[i] ∧ w.frozen? ⟨b, off + i, none⟩ = false) (k : Nat) (vs : List Value) (hk : k + vs.length ≤ xs.length) :
    Mine B (w.setCells b (off + k) vs) (some ⟨b, off, none⟩) (xs.take k ++ (vs ++ xs.drop (k + vs.length))) := by
  rw [← setsL_eq vs xs k hk]
  exact .inr ⟨b, off, rfl, hB, stores_cells vs k xs w h⟩

theorem wpList_copy_cellsZ {P : Program} {w : World} {ops : Array Oper} {rest : List Oper} {o : Oper} {a : Act} {Q : Exit → Act → World → Prop} (hgd : o.guard = none) (d s : Operand) (dT sT : TypeId)
    (ho : o.op = .call { callee := .builtin .copy, args := #[d, s], argTypes := #[dT, sT] }) (elem : TypeId) (z : Nat) (hu : P.underlying dT = some (.slice elem)) (hsz : (P.info? elem).map (·.size) = some z)
    (b off dLen dCap : Nat) (ad : Addr) (sLen sCap : Nat) (hd : a.eval d = .slice (some ⟨b, off, none⟩) dLen dCap) (hs : a.eval s = .slice (some ad) sLen sCap)
    (cs : List Value) (hn : cs.length = Nat.min sLen dLen * z) (hsrc : ∀ j v, cs[j]? = some v → w.cell? (ad.add j) = some v)
    (hc : ∀ j, j < cs.length → (w.cell? ⟨b, off + j, none⟩).isSome = true) (hf : ∀ j, j < cs.length → w.frozen? ⟨b, off + j, none⟩ = false) (h1 : ∀ v ∈ cs, v.oneCell' = true)
    (h : wpList P ops Q rest (a.put o.dst (goInt (Nat.min sLen dLen))) (w.setCells b off cs)) : wpList P ops Q (o :: rest) a w := by
  refine wpList_plain hgd fun K hK => ?_
  have hrun := run_copy_cellsZ (P := P) w dT sT o.type elem z b off dLen dCap ad sLen sCap cs hu hsz hn hsrc hc hf h1
  unfold Oper.wp
  simp [execOp, ho, resolve, invoke, builtin, hd, hs, hrun, Result.andThen]
  exact hK _ _ h
theorem step_copy_cellsZ {P : Program} {ops : Array Oper} {o : Oper} {a : Act} {w : World} {K : Act → World → Prop} {Q : Exit → Act → World → Prop} {E : Prop} (hgd : o.guard = none) (d s : Operand) (dT sT : TypeId)
    (ho : o.op = .call { callee := .builtin .copy, args := #[d, s], argTypes := #[dT, sT] }) (elem : TypeId) (z : Nat) (hu : P.underlying dT = some (.slice elem)) (hsz : (P.info? elem).map (·.size) = some z)
    (b off dLen dCap : Nat) (ad : Addr) (sLen sCap : Nat) (hd : a.eval d = .slice (some ⟨b, off, none⟩) dLen dCap) (hs : a.eval s = .slice (some ad) sLen sCap)
    (cs : List Value) (hn : cs.length = Nat.min sLen dLen * z) (hsrc : ∀ j v, cs[j]? = some v → w.cell? (ad.add j) = some v)
    (hc : ∀ j, j < cs.length → (w.cell? ⟨b, off + j, none⟩).isSome = true) (hf : ∀ j, j < cs.length → w.frozen? ⟨b, off + j, none⟩ = false) (h1 : ∀ v ∈ cs, v.oneCell' = true)
    (h : K (a.put o.dst (goInt (Nat.min sLen dLen))) (w.setCells b off cs)) :
    if Region.wanted o (yielded ops a.tmps) = true then Oper.wp P o a w K Q else E := by
  have hw : Region.wanted o (yielded ops a.tmps) = true := by simp [Region.wanted, hgd]
  rw [if_pos hw]
  have hrun := run_copy_cellsZ (P := P) w dT sT o.type elem z b off dLen dCap ad sLen sCap cs hu hsz hn hsrc hc hf h1
  unfold Oper.wp
  simp [execOp, ho, resolve, invoke, builtin, hd, hs, hrun, Result.andThen]
  exact h
end Go.Proofs.YtfpbboldfilhlaaDoor
