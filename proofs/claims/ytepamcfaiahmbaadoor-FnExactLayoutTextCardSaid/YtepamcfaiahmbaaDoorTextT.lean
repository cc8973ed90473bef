/-
  Contracts of LayoutText, the reference's and the given program's. Conditions: the parts lie as the cells say; the library's table stands in its variable.
-/
import Derived.Test.YtepamcfaiahmbaaDoorTextI
import Derived.Test.YtepamcfaiahmbaaDoorLayOK
import Derived.Test.YtepamcfaiahmbaaDoorTreFit
namespace Go.Proofs.YtepamcfaiahmbaaDoor
open Go.ChangeShapes Go.WideShapes Go.ChangeAt Go.RowKit
set_option linter.unusedVariables false
set_option linter.unusedSimpArgs false
set_option maxRecDepth 100000
/-- what LayoutText answers -/
def TextR (ps : List PartV) (W H : Int) (tx : ByteArray) (cd : Int) : Prop := (okL ps W H = false ∧ tx = ByteArray.empty ∧ cd = 1) ∨ ∃ t, Lay ps W H t ∧ tx = t.textB ∧ cd = 0
theorem TextR.ex (ps : List PartV) (W H : Int) : ∃ tx cd, TextR ps W H tx cd := by
  cases h : okL ps W H
  · exact ⟨_, _, .inl ⟨h, rfl, rfl⟩⟩
  · obtain ⟨t, y⟩ := okL_get h
    exact ⟨_, _, .inr ⟨t, y, rfl, rfl⟩⟩
attribute [local irreducible] wpList
set_option maxHeartbeats 4000000 in
theorem specText_any (ao : Option Addr) (len cap : Nat) (ps : List PartV) (W H : Int) (tx : ByteArray) (cd : Int) (w : World) (ha : At w ao (partsV ps)) (hl : ps.length = len) (hlc : len ≤ cap) (hn : len ≤ 2000000) (hR : TextR ps W H tx cd) :
    Calls Tryd.prog 6 #[.agg #[.slice ao len cap], .int .i64 W, .int .i64 H] w fun e w' => e = .returned (.tuple #[.string tx, .int .i64 cd]) ∧ Below w.heap.size w w' := by
  obtain ⟨V, hV⟩ : ∃ V, (w.alloc (.cells #[.slice ao len cap] 30)) = V := ⟨_, rfl⟩
  have hB : Below w.heap.size w V := by rw [← hV]; exact (Below.refl _ _).alloc (Nat.le_refl _) _
  have hz : V.heap.size = w.heap.size + 1 := by rw [← hV]; simp
  have m0 : V.heap[w.heap.size]? = some (.cells #[.slice ao len cap] 30 (0, 0)) := by rw [← hV]; exact heap_alloc_new w _
  have HO := Lib.hid (l05OK_any ao len cap ps hl hn hlc W H V (ha.below hB (Nat.le_refl _)))
  have HB := Lib.hid hB
  have HM0 := Lib.hid m0
  have HA := Lib.hid ha
  have HZ := Lib.hid hz
  have HL := Lib.hid hl
  rcases hR with ⟨h, rfl, rfl⟩ | ⟨t, y, hT, rfl⟩
  · rw [h] at HO
    clear ha hB m0 hz hl h
    subst hV
    go_enter Tryd.func6, Tryd.ntmps6
    go_wp2_with fail
    refine HO.out.mono ?_
    generalize (w.alloc (.cells #[.slice ao len cap] 30)) = V at *
    rintro e w1 ⟨rfl, hb1⟩
    have B1 : Hid (Below w.heap.size w w1) := HB.out.trans (hb1.mono (by have := HZ.out; omega))
    clear hb1 HO
    go_wp2
    go_ret2
    exact ⟨rfl, B1.out⟩
  · rw [okL_true y] at HO
    have HY := Lib.hid y
    have HT := Lib.hid hT
    clear ha hB m0 hz hl y hT
    subst hV
    go_enter Tryd.func6, Tryd.ntmps6
    go_wp2_with fail
    refine HO.out.mono ?_
    generalize (w.alloc (.cells #[.slice ao len cap] 30)) = V at *
    rintro e w1 ⟨rfl, hb1⟩
    have hz1 : V.heap.size ≤ w1.heap.size := hb1.size
    have B1 : Hid (Below w.heap.size w w1) := HB.out.trans (hb1.mono (by have := HZ.out; omega))
    have X0 := Lib.hid (box_below HM0.out hb1 (by have := HZ.out; omega))
    have x0 := box_cells X0.out 0
    simp only [List.getElem?_toArray, List.getElem?_cons_zero] at x0
    have HOF := Lib.hid (l05Of_any ao len cap ps HL.out (by omega) t 0 w1 (HA.out.below B1.out (Nat.le_refl _)) HY.out.at0)
    clear hb1 HO HB HM0
    go_wp2_with fail
    refine HOF.out.mono ?_
    rintro e w2 ⟨s, rfl, ht, hnd, hge, hb2⟩
    have hz2 : w1.heap.size ≤ w2.heap.size := hb2.size
    have B2 : Hid (Below w.heap.size w w2) := B1.out.trans (hb2.mono (by have := HZ.out; omega))
    have HTX := Lib.hid (l05Text_any t s w2 ht (Tr.fits_num HY.out.ft HY.out.w2 (by have := HY.out.h2; omega)) (by have := HY.out.lv; omega))
    clear hb2 ht hnd hge HOF
    go_wp2_with fail
    refine HTX.out.mono ?_
    rintro e w3 ⟨rfl, hb3⟩
    have B3 : Hid (Below w.heap.size w w3) := B2.out.trans (hb3.mono (by have := HZ.out; omega))
    clear hb3 HTX
    go_wp2
    go_ret2
    exact ⟨by rw [HT.out]; rfl, B3.out⟩
set_option maxHeartbeats 4000000 in
theorem implText_any (ao : Option Addr) (len cap : Nat) (ps : List PartV) (W H : Int) (tx : ByteArray) (cd : Int) (w : World) (hg : Pow w) (ha : At w ao (partsV ps)) (hl : ps.length = len) (hlc : len ≤ cap) (hn : len ≤ 2000000) (hR : TextR ps W H tx cd) :
    Calls Tryd.prog 8 #[.agg #[.slice ao len cap], .int .i64 W, .int .i64 H] w fun e w' => e = .returned (.tuple #[.string tx, .int .i64 cd]) ∧ Below w.heap.size w w' := by
  obtain ⟨V, hV⟩ : ∃ V, (w.alloc (.cells #[.slice ao len cap] 30)) = V := ⟨_, rfl⟩
  have hB : Below w.heap.size w V := by rw [← hV]; exact (Below.refl _ _).alloc (Nat.le_refl _) _
  have hz : V.heap.size = w.heap.size + 1 := by rw [← hV]; simp
  have HO := Lib.hid (treeOf_any ao len cap ps W H V (ha.below hB (Nat.le_refl _)) hl hlc hn)
  have HB := Lib.hid hB
  have HA := Lib.hid ha
  have HZ := Lib.hid hz
  have HL := Lib.hid hl
  have HG := Lib.hid hg
  have HR := Lib.hid hR
  clear ha hB hz hl hg hR
  subst hV
  go_enter Tryd.func8, Tryd.ntmps8
  go_wp2_with fail
  refine HO.out.mono ?_
  generalize (w.alloc (.cells #[.slice ao len cap] 30)) = V at *
  rintro e w1 ⟨hb1, hcase⟩
  have B1 : Hid (Below w.heap.size w w1) := HB.out.trans (hb1.mono (by have := HZ.out; omega))
  clear hb1 HO
  rcases hcase with ⟨hno, rfl⟩ | ⟨t, s, hy, rfl, ht, hnd, hge⟩
  · rcases HR.out with ⟨_, rfl, rfl⟩ | ⟨t, y, _⟩
    rotate_left
    · exact absurd y (hno t)
    clear hno HR
    go_wp2
    go_ret2
    exact ⟨rfl, B1.out⟩
  · rcases HR.out with ⟨h, _⟩ | ⟨t', y', hT, rfl⟩
    · exact absurd hy (okL_none h t)
    obtain rfl := y'.unique hy
    have HT := Lib.hid hT
    have HTX := Lib.hid (text_any t' s w1 (HG.out.below B1.out (Nat.le_refl _)) ht (Tr.fits_num hy.ft hy.w2 (by have := hy.h2; omega)) (by have := hy.lv; omega))
    clear hy y' ht hnd hge hT HR
    go_wp2_with fail
    refine HTX.out.mono ?_
    rintro e w3 ⟨rfl, hb3⟩
    have B3 : Hid (Below w.heap.size w w3) := B1.out.trans (hb3.mono B1.out.size)
    clear hb3 HTX
    go_wp2
    go_ret2
    exact ⟨by rw [HT.out]; rfl, B3.out⟩
end Go.Proofs.YtepamcfaiahmbaaDoor
