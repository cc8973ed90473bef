/-
  What the row's list of the table of words gives: each cell of the table holds its word. No program text; no condition.
-/
import Derived.Test.YtbnlbfljgchcfaaDoorCodeWord
import Derived.Lib.LaidTab
namespace Go.Proofs.YtbnlbfljgchcfaaDoor
open Go.RowKit

def cells_codeWords : Array Value := #[Value.string { data := #[111, 107] }, Value.string { data := #[98, 97, 100] }, Value.string { data := #[108, 111, 110, 103] }, Value.string { data := #[102, 111, 114, 109] }, Value.string { data := #[114, 97, 110, 103, 101] }, Value.string { data := #[110, 111, 110, 101] }, Value.string { data := #[109, 97, 110, 121] }, Value.string { data := #[102, 117, 108, 108] }, Value.string { data := #[115, 117, 109] }, Value.string { data := #[116, 119, 105, 99, 101] }, Value.string { data := #[115, 109, 97, 108, 108] }, Value.string { data := #[115, 116, 97, 108, 101] }, Value.string { data := #[108, 101, 97, 100, 101, 114] }, Value.string { data := #[100, 111, 119, 110] }, Value.string { data := #[97, 103, 97, 105, 110] }, Value.string { data := #[108, 97, 116, 101] }, Value.string { data := #[116, 111, 107, 101, 110] }, Value.string { data := #[108, 97, 115, 116] }, Value.string { data := #[108, 111, 115, 116] }, Value.string { data := #[118, 105, 101, 119] }]

/-- an array of texts that reads as a list of texts holds them, cell for cell -/
theorem cells_of_texts {H : Type} {enc : TypeId × Value → H} {P : Program} {w : World} {base : Nat} {sp : Nat → Bool} {held : Bool} {fuel : Nat} {t e : TypeId} {n : Nat} {cs : List Value} {zs : List (List UInt8)} {p : List MemPlace}
    (ht : P.underlying t = some (.array n e)) (he : P.underlying e = some .string) (hce : P.cellsOf e = 1) (hct : P.cellsOf t = n)
    (h : DataW.trod enc P w base sp held fuel t cs = some (.agg (zs.map fun z => .lit (.string z)), p)) : cs = zs.map fun z => Value.string ⟨z.toArray⟩ := by
  cases fuel with
  | zero => simp [DataW.trod] at h
  | succ fuel =>
    simp only [DataW.trod, ht, hce, hct, Nat.mul_one] at h
    split at h
    · rename_i hl
      obtain ⟨xs, hm, hx⟩ := Option.map_eq_some_iff.1 h
      have hxs : xs.map (·.1) = zs.map fun z => (DataW.lit (.string z) : DataW H) := by
        have := congrArg Prod.fst hx
        simpa using this
      have hxl : xs.length = n := by simpa using Lib.mapM_length hm
      have hzl : zs.length = n := by
        have := congrArg List.length hxs
        simp at this
        omega
      apply List.ext_getElem?
      intro i
      by_cases hi : i < n
      · obtain ⟨b, hb, hf⟩ := Lib.mapM_at hm i i (by simp [hi])
        obtain ⟨z, hc, rfl, _⟩ := DataW.trod_string he hf
        have h1 : cs[i]? = some (.string z) := by
          have := congrArg (·[0]?) hc
          simpa [List.getElem?_take, List.getElem?_drop] using this
        have h2 : (xs.map (·.1))[i]? = some (DataW.lit (.string z.data.toList) : DataW H) := by simp [hb]
        rw [hxs] at h2
        simp only [List.getElem?_map, Option.map_eq_some_iff, DataW.lit.injEq, Lit.string.injEq] at h2
        obtain ⟨z', hz', rfl⟩ := h2
        simp [h1, hz']
      · rw [List.getElem?_eq_none (by omega), List.getElem?_eq_none (by simp; omega)]
    · cases h

theorem gW : Tryd.prog.globalNamed "loop.example/g00308/impl.codeWords" = some 0 := by kernel_rfl
theorem gWType : (Tryd.prog.globals[0]?).map (·.type) = some 28 := by kernel_rfl

theorem words_of {W : World} (h : laidMet Tryd.prog [("loop.example/g00308/impl.codeWords", Rows.laid_loop_example_g00308_impl_codeWords)] W) : Words W := by
  obtain ⟨ps, ⟨g', t', cs, fuel, p, q, hg', ht', hvar, hd, _, _⟩, _⟩ := h
  obtain rfl := Option.some.inj (gW.symm.trans hg')
  obtain rfl := Option.some.inj (gWType.symm.trans ht')
  have hcs := cells_of_texts (zs := [[111, 107], [98, 97, 100], [108, 111, 110, 103], [102, 111, 114, 109], [114, 97, 110, 103, 101], [110, 111, 110, 101], [109, 97, 110, 121], [102, 117, 108, 108], [115, 117, 109], [116, 119, 105, 99, 101], [115, 109, 97, 108, 108], [115, 116, 97, 108, 101], [108, 101, 97, 100, 101, 114], [100, 111, 119, 110], [97, 103, 97, 105, 110], [108, 97, 116, 101], [116, 111, 107, 101, 110], [108, 97, 115, 116], [108, 111, 115, 116], [118, 105, 101, 119]]) Tryd.underlying28 Tryd.underlying9 (by kernel_rfl) (by kernel_rfl) hd
  intro i hi
  have hc := World.var?_cell gW hvar i
  rw [show W.cell? ⟨0, i, none⟩ = cs[i]? from hc]
  have e : cs = cells_codeWords := by apply Array.toList_inj.1; rw [hcs]; rfl
  rw [e]
  match i, hi with
  | 0, _ => rfl
  | 1, _ => rfl
  | 2, _ => rfl
  | 3, _ => rfl
  | 4, _ => rfl
  | 5, _ => rfl
  | 6, _ => rfl
  | 7, _ => rfl
  | 8, _ => rfl
  | 9, _ => rfl
  | 10, _ => rfl
  | 11, _ => rfl
  | 12, _ => rfl
  | 13, _ => rfl
  | 14, _ => rfl
  | 15, _ => rfl
  | 16, _ => rfl
  | 17, _ => rfl
  | 18, _ => rfl
  | 19, _ => rfl
  | n + 20, h => exact absurd h (by omega)

theorem holds_FnExactCodeWord {W : World} (h : laidMetH Tryd.prog Rows.fnExactCodeWordRow.laid W) : Words W := words_of h
theorem holds_FnExactCodeOf {W : World} (h : laidMetH Tryd.prog Rows.fnExactCodeOfRow.laid W) : Words W := words_of h
end Go.Proofs.YtbnlbfljgchcfaaDoor
