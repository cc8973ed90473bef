/-
  Contracts of LayoutAreas of the reference and of the given program, in one form. Conditions: the parts lie as the cells say.
-/
import Derived.Test.YtaacccooidehlaaDoorAreasT
namespace Go.Proofs.YtaacccooidehlaaDoor
open Go.ChangeShapes Go.WideShapes Go.ChangeAt Go.RowKit
set_option linter.unusedVariables false
set_option linter.unusedSimpArgs false
set_option maxRecDepth 100000
/-- what LayoutAreas answers -/
def AreasR (ps : List PartV) (W H : Int) (rl : List AreaV) (cd : Int) : Prop :=
  (okL ps W H = false ∧ rl = [] ∧ cd = 1) ∨ ∃ t, Lay ps W H t ∧ rl = t.areas 0 0 W H ∧ cd = 0
theorem areasR_total (ps : List PartV) (W H : Int) : ∃ rl cd, AreasR ps W H rl cd ∧ rl.length ≤ 6 := by
  cases h : okL ps W H
  · exact ⟨[], 1, .inl ⟨h, rfl, rfl⟩, by simp⟩
  · obtain ⟨t, y⟩ := okL_get h
    exact ⟨_, 0, .inr ⟨t, y, rfl, rfl⟩, by rw [Tr.length_areas]; exact y.lv⟩
def AreasQ (n : Nat) (rl : List AreaV) (cd : Int) (w : World) (e : Ending) (w' : World) : Prop :=
  ∃ ao cap, e = .returned (.tuple #[.slice ao n cap, .int .i64 cd]) ∧ Mine w.heap.size w' ao (areasV rl) ∧ Below w.heap.size w w'
theorem implAreasR_any (ao : Option Addr) (len cap : Nat) (ps : List PartV) (W H : Int) (n : Nat) (rl : List AreaV) (cd : Int) (w : World) (ha : At w ao (partsV ps)) (hl : ps.length = len) (hlc : len ≤ cap) (hn : len ≤ 2000000) (hR : AreasR ps W H rl cd) (hrl : rl.length = n) :
    Calls Tryd.prog 10 #[.agg #[.slice ao len cap], .int .i64 W, .int .i64 H] w fun e w' => ∃ ao cap, e = .returned (.tuple #[.slice ao n cap, .int .i64 cd]) ∧ Mine w.heap.size w' ao (areasV rl) ∧ Below w.heap.size w w' := by
  refine (implAreas_any ao len cap ps W H w ha hl hlc hn).mono ?_
  rintro e w' ⟨hb, ⟨hno, rfl⟩ | ⟨t, a', c', y, rfl, hm⟩⟩
  · rcases hR with ⟨_, rfl, rfl⟩ | ⟨t, y, _⟩
    · subst hrl
      exact ⟨none, 0, rfl, .inl rfl, hb⟩
    · exact absurd y (hno t)
  · rcases hR with ⟨h, _⟩ | ⟨t', y', rfl, rfl⟩
    · exact absurd y (okL_none h t)
    · rw [Tr.length_areas] at hrl
      subst hrl
      rw [y'.unique y]
      exact ⟨a', c', rfl, hm, hb⟩
theorem specAreasR_any (ao : Option Addr) (len cap : Nat) (ps : List PartV) (W H : Int) (n : Nat) (rl : List AreaV) (cd : Int) (w : World) (ha : At w ao (partsV ps)) (hl : ps.length = len) (hlc : len ≤ cap) (hn : len ≤ 2000000) (hR : AreasR ps W H rl cd) (hrl : rl.length = n) :
    Calls Tryd.prog 6 #[.agg #[.slice ao len cap], .int .i64 W, .int .i64 H] w fun e w' => ∃ ao cap, e = .returned (.tuple #[.slice ao n cap, .int .i64 cd]) ∧ Mine w.heap.size w' ao (areasV rl) ∧ Below w.heap.size w w' := by
  have HB : Hid (Below w.heap.size w (w.alloc (.cells #[.slice ao len cap] 26))) := (Below.refl _ _).alloc (Nat.le_refl _) _
  have HO := Lib.hid (l05OK_any ao len cap ps hl hn hlc W H _ (ha.below HB.out (Nat.le_refl _)))
  have HX0 : Hid ((w.alloc (.cells #[.slice ao len cap] 26)).heap[w.heap.size]? = some (.cells #[.slice ao len cap] 26 (0, 0))) := heap_alloc_new w _
  have HA := Lib.hid ha
  have HL := Lib.hid hl
  rcases hR with ⟨h, rfl, rfl⟩ | ⟨t, y, rfl, rfl⟩
  · rw [h] at HO
    subst hrl
    clear ha hl h
    go_enter Tryd.func6, Tryd.ntmps6
    go_wp2_with fail
    refine HO.out.mono ?_
    rintro e w1 ⟨rfl, hb1⟩
    have HB1 : Hid (Below w.heap.size w w1) := HB.out.trans (hb1.mono (by simp <;> omega))
    clear hb1
    go_wp2
    go_ret2
    first
      | exact ⟨_, _, rfl, .inl rfl, HB1.out⟩
      | exact ⟨_, _, rfl, .inl rfl, HB1.out.alloc HB1.out.size _⟩
  · rw [okL_true y] at HO
    rw [Tr.length_areas] at hrl
    subst hrl
    have h1 := y.w2
    have h2 := y.h2
    have h3 := y.lv
    have h4 := t.len_eq
    have HP : Hid (PartsAt ps 0 t) := by show PartsAt _ _ _; rw [y.eq]; exact PartsAt.self t
    have HF := Lib.hid y.ft
    clear ha hl y
    go_enter Tryd.func6, Tryd.ntmps6
    go_wp2_with fail
    refine HO.out.mono ?_
    rintro e w1 ⟨rfl, hb1⟩
    have HB1 : Hid (Below w.heap.size w w1) := HB.out.trans (hb1.mono (by simp <;> omega))
    have x0 := box_cells ((hb1.block _ (box_lt HX0.out)).trans HX0.out) 0
    simp at x0
    have HAR := Lib.hid (l05Areas_any ao len cap ps HL.out hn t 0 0 0 W H 0 w1 (HA.out.below HB1.out (Nat.le_refl _)) HP.out HF.out (by omega) (by omega) (by omega) (by omega) (by omega) (by omega) (by omega) (by omega))
    clear hb1
    go_wp2_with fail
    refine HAR.out.mono ?_
    rintro e w2 ⟨v, rfl, hown, hb2⟩
    obtain ⟨g, cp, rfl, hg, _⟩ := hown.form t.leaves_pos
    have HM : Hid (Mine w.heap.size w2 (some ⟨g, 0, none⟩) (areasV (t.areas 0 0 W H))) := (own_at hown).mono HB1.out.size
    have HB2 : Hid (Below w.heap.size w w2) := HB1.out.trans (hb2.mono HB1.out.size)
    clear hown hb2
    go_wp2
    go_ret2
    exact ⟨_, _, rfl, HM.out, HB2.out⟩
end Go.Proofs.YtaacccooidehlaaDoor
