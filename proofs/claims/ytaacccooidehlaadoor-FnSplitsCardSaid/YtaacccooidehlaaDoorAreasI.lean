/-
  Contract of the given program's LayoutAreas. Conditions: the parts lie as the cells say.
-/
import Derived.Test.YtaacccooidehlaaDoorLayOK
import Derived.Test.YtaacccooidehlaaDoorAreaEq
namespace Go.Proofs.YtaacccooidehlaaDoor
open Go.ChangeShapes Go.WideShapes Go.ChangeAt Go.RowKit
set_option linter.unusedVariables false
set_option linter.unusedSimpArgs false
set_option maxRecDepth 100000
def AreasP (ps : List PartV) (W H : Int) (w : World) (e : Ending) (w' : World) : Prop :=
  Below w.heap.size w w' ∧ (((∀ t, ¬ Lay ps W H t) ∧ e = .returned (.tuple #[.slice none 0 0, .int .i64 1])) ∨
    ∃ t ao cap, Lay ps W H t ∧ e = .returned (.tuple #[.slice ao t.leaves cap, .int .i64 0]) ∧ Mine w.heap.size w' ao (areasV (t.areas 0 0 W H)))
theorem implAreas_any (ao : Option Addr) (len cap : Nat) (ps : List PartV) (W H : Int) (w : World) (ha : At w ao (partsV ps)) (hl : ps.length = len) (hlc : len ≤ cap) (hn : len ≤ 2000000) :
    Calls Tryd.prog 10 #[.agg #[.slice ao len cap], .int .i64 W, .int .i64 H] w (AreasP ps W H w) := by
  have HB : Hid (Below w.heap.size w (w.alloc (.cells #[.slice ao len cap] 26))) := (Below.refl _ _).alloc (Nat.le_refl _) _
  have HC := Lib.hid (treeOf_any ao len cap ps W H _ (ha.below HB.out (Nat.le_refl _)) hl hlc hn)
  clear ha hl
  go_enter Tryd.func10, Tryd.ntmps10
  go_wp2_with fail
  refine HC.out.mono ?_
  rintro e w1 ⟨hb1, ⟨hno, rfl⟩ | ⟨t, s, hy, rfl, ht, hnd, hge⟩⟩
  · have HB1 : Hid (Below w.heap.size w w1) := HB.out.trans (hb1.mono (by simp <;> omega))
    have HN := Lib.hid hno
    clear hb1 hno
    go_wp2
    go_ret2
    exact ⟨HB1.out, .inl ⟨HN.out, rfl⟩⟩
  · have HB1 : Hid (Below w.heap.size w w1) := HB.out.trans (hb1.mono (by simp <;> omega))
    have HY := Lib.hid hy
    have h1 := hy.w2
    have h2 := hy.h2
    have h3 := hy.w1
    have h4 := hy.h1
    have h5 := hy.lv
    have h6 := t.len_eq
    have HAR := Lib.hid (areas_any t s w1 w1.heap.size (.slice none 0 0) 0 [] 0 0 W H 24 ht hy.okP (own_none _ _ _ _) (by omega) (by simp) (by omega) (by omega) (by omega) (by omega) (by omega) (by omega) (by omega) (by omega) (by omega))
    clear hb1 hy ht hnd hge
    go_wp2_with fail
    refine HAR.out.mono ?_
    rintro e w5 ⟨v5, rfl, hown5, hg5, hr5⟩
    obtain ⟨aA, capA, rfl, hmA⟩ := mine_of_owns hown5
    rw [List.nil_append] at hmA
    have HM : Hid (Mine w.heap.size w5 aA (areasV (t.areas 0 0 W H))) := hmA.mono HB1.out.size
    have HB5 : Hid (Below w.heap.size w w5) := HB1.out.grown hg5 HB1.out.size (fun k hk => by simp [Value.ownBlock] at hk)
    clear hown5 hg5 hr5 hmA
    go_wp2
    go_ret2
    exact ⟨HB5.out, .inr ⟨t, aA, capA, HY.out, by simp, HM.out⟩⟩
end Go.Proofs.YtaacccooidehlaaDoor
