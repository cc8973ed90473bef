/-
  Contract of the reference's l05Areas. Conditions: the parts lie as the cells say, they are a tree.
-/
import Derived.Test.YtaacccooidehlaaDoorAreasI
namespace Go.Proofs.YtaacccooidehlaaDoor
open Go.ChangeShapes Go.WideShapes Go.ChangeAt Go.RowKit
set_option linter.unusedVariables false
set_option linter.unusedSimpArgs false
set_option maxRecDepth 100000
def AreasS (t : Tr) (x y a b : Int) (w : World) (e : Ending) (w' : World) : Prop :=
  ∃ v, e = .returned v ∧ w'.ownsRow w.heap.size 32 5 v t.leaves (areasV (t.areas x y a b)) ∧ Below w.heap.size w w'
theorem l05Areas_leaf (ao : Option Addr) (len cap : Nat) (ps : List PartV) (hl : ps.length = len) (k : Nat) (p : Int) (x y a b : Int) (w : World) (ha : At w ao (partsV ps)) (hp : PartsAt ps k (.leaf p)) :
    Calls Tryd.prog 16 #[.agg #[.slice ao len cap], .int .i64 k, .int .i64 x, .int .i64 y, .int .i64 a, .int .i64 b] w (AreasS (.leaf p) x y a b w) := by
  have hp' := PartsAt.leaf.1 hp
  have HB : Below w.heap.size w (w.alloc (.cells #[.slice ao len cap] 26)) := (Below.refl _ _).alloc (Nat.le_refl _) _
  obtain ⟨blk, off, rfl, c0, c1, c2, c3, c4⟩ := At.part (ha.below HB (Nat.le_refl _)) hp'
  have hk : k < len := by have := (List.getElem?_eq_some_iff.1 hp').1; omega
  have i1 : (0 : Int) ≤ (k : Int) := by omega
  have i2 : (k : Int) < (len : Int) := by omega
  simp only at c0 c1 c2 c3 c4
  have HB2 : Hid (Below w.heap.size w ((w.alloc (.cells #[.slice (some ⟨blk, off, none⟩) len cap] 26)).alloc (.cells #[.int .i64 p, .bool false, .int .i64 0, .int .i64 (-1), .int .i64 (-1)] 54))) := HB.alloc (by simp) _
  clear ha hp hp' hl
  go_enter Tryd.func16, Tryd.ntmps16
  go_wp2
  go_ret
  have h := World.ownsRow_lit (base := w.heap.size) (e := 32) (size := 5) ((w.alloc (.cells #[.slice (some ⟨blk, off, none⟩) len cap] 26)).alloc (.cells #[.int .i64 p, .bool false, .int .i64 0, .int .i64 (-1), .int .i64 (-1)] 54)) #[.int .i64 p, .int .i64 x, .int .i64 y, .int .i64 a, .int .i64 b] 1 HB2.out.size (by decide) rfl
  rw [World.size_alloc, World.size_alloc] at h
  exact ⟨_, rfl, h, HB2.out.alloc HB2.out.size _⟩
end Go.Proofs.YtaacccooidehlaaDoor
