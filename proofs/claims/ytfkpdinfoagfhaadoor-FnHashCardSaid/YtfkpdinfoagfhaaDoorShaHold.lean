/-
  What the rows' lists of the tables of SHA-256 give: each cell of the tables holds its word. No condition.
-/
import Derived.Test.YtfkpdinfoagfhaaDoorSha3
import Derived.Lib.LaidTab
namespace Go.Proofs.YtfkpdinfoagfhaaDoor
open Go.RowKit
set_option maxRecDepth 100000

def u32cells (l : List Nat) : Array Value := (l.map fun x : Nat => Value.int .u32 (x : Int)).toArray
def cells_hashStart : Array Value := u32cells startW.list
def cells_hashRounds : Array Value := u32cells ks
theorem gHS : Tryd.prog.globalNamed "loop.example/g00308/impl.hashStart" = some 0 := by kernel_rfl
theorem gHSType : (Tryd.prog.globals[0]?).map (·.type) = some 60 := by kernel_rfl
theorem gHR : Tryd.prog.globalNamed "loop.example/g00308/impl.hashRounds" = some 1 := by kernel_rfl
theorem gHRType : (Tryd.prog.globals[1]?).map (·.type) = some 78 := by kernel_rfl
theorem laidMet_tail {P : Program} {x : String × DataW Unit} {rest : List (String × DataW Unit)} {W : World} (h : laidMet P (x :: rest) W) : laidMet P rest W := by
  obtain ⟨ps, ⟨g, t, cs, fuel, p, q, _, _, _, _, hr, rfl⟩, hnd, hok⟩ := h
  exact ⟨q, hr, (List.nodup_append.1 hnd).2.1, fun b off hm => hok b off (List.mem_append_right _ hm)⟩
theorem tab_cells {W : World} {name : String} {g n : Nat} {t e : TypeId} {l : List Nat} (hg : Tryd.prog.globalNamed name = some g) (hty : (Tryd.prog.globals[g]?).map (·.type) = some t) (ht : Tryd.prog.underlying t = some (.array n e)) (he : Tryd.prog.underlying e = some (.int .u32)) (hce : Tryd.prog.cellsOf e = 1) (hct : Tryd.prog.cellsOf t = n)
    {rest : List (String × DataW Unit)} (h : laidMet Tryd.prog ((name, Lib.tabData .u32 (l.map fun x : Nat => (x : Int))) :: rest) W) : ∀ i, i < l.length → W.cell? ⟨g, i, none⟩ = some (.int .u32 (l.getD i 0 : Nat)) := by
  intro i hi
  have := (Lib.tabIs_of_head hg hty ht he hce hct h).cell hg i (by simpa using hi)
  rw [this]
  simp [List.getD_eq_getElem?_getD, List.getElem?_eq_getElem hi]
theorem start_of {W : World} {rest : List (String × DataW Unit)} (h : laidMet Tryd.prog (("loop.example/g00308/impl.hashStart", Rows.laid_loop_example_g00308_impl_hashStart) :: rest) W) : Start W := by
  have := tab_cells (l := startW.list) gHS gHSType Tryd.underlying60 Tryd.underlying52 (by kernel_rfl) (by kernel_rfl) (rest := rest) (by exact h)
  exact this
theorem rnd_of {W : World} {rest : List (String × DataW Unit)} (h : laidMet Tryd.prog (("loop.example/g00308/impl.hashRounds", Rows.laid_loop_example_g00308_impl_hashRounds) :: rest) W) : Rnd W := by
  have := tab_cells (l := ks) gHR gHRType Tryd.underlying78 Tryd.underlying52 (by kernel_rfl) (by kernel_rfl) (rest := rest) (by exact h)
  exact this
theorem holds_FnExactHash {W : World} (h : laidMetH Tryd.prog Rows.fnExactHashRow.laid W) : Start W ∧ Rnd W := ⟨start_of h, rnd_of (laidMet_tail h)⟩
theorem holds_FnExactHmac {W : World} (h : laidMetH Tryd.prog Rows.fnExactHmacRow.laid W) : Start W ∧ Rnd W := ⟨start_of h, rnd_of (laidMet_tail h)⟩
theorem holds_FnHmac {W : World} (h : laidMetH Tryd.prog Rows.fnHmacRow.laid W) : Start W ∧ Rnd W := ⟨start_of h, rnd_of (laidMet_tail h)⟩
end Go.Proofs.YtfkpdinfoagfhaaDoor
