/-
  Contracts of FitLayout of the reference and of the given program, in one form. Conditions: the parts lie as the cells say.
-/
import Derived.Test.YtaacccooidehlaaDoorTreLay
import Derived.Test.YtaacccooidehlaaDoorLayOK
namespace Go.Proofs.YtaacccooidehlaaDoor
open Go.ChangeShapes Go.WideShapes Go.ChangeAt Go.RowKit
set_option linter.unusedVariables false
set_option linter.unusedSimpArgs false
set_option maxRecDepth 100000
theorem Lay.len {l : List PartV} {w h : Int} {t : Tr} (y : Lay l w h t) : t.len ≤ 11 ∧ t.leaves ≤ 6 ∧ l.length = t.len ∧ 0 < t.len := by
  have h1 := t.len_eq
  have h2 := y.lv
  have h3 := t.len_pos
  exact ⟨by omega, h2, by rw [y.eq, Tr.length_parts], h3⟩
theorem Lay.at0 {l : List PartV} {w h : Int} {t : Tr} (y : Lay l w h t) : PartsAt l 0 t := by rw [y.eq]; exact PartsAt.self t
/-- the answer of a call that hands back a layout that stands in memory -/
def LayAt (n : Nat) (rl : List PartV) (cd : Int) (w : World) (e : Ending) (w' : World) : Prop :=
  ∃ ao cap, e = .returned (.tuple #[.agg #[.slice ao n cap], .int .i64 cd]) ∧ n ≤ cap ∧ At w' ao (partsV rl) ∧ Below w.heap.size w w'
/-- what FitLayout answers to a layout -/
def FitQ (ps : List PartV) (nw nh : Int) (t : Tr) (rl : List PartV) (cd : Int) : Prop :=
  (t.needW ≤ nw ∧ t.needH ≤ nh ∧ rl = (t.fit nw nh).parts 0 ∧ cd = 0) ∨ (¬ (t.needW ≤ nw ∧ t.needH ≤ nh) ∧ rl = ps ∧ cd = 10)
def FitR (ps : List PartV) (W H nw nh : Int) (rl : List PartV) (cd : Int) : Prop :=
  (okL ps W H = false ∧ rl = [] ∧ cd = 1) ∨ ∃ t, Lay ps W H t ∧ ((sizeB nw nh = false ∧ rl = [] ∧ cd = 4) ∨ (sizeB nw nh = true ∧ FitQ ps nw nh t rl cd))
theorem fitR_total (ps : List PartV) (W H nw nh : Int) : ∃ rl cd, FitR ps W H nw nh rl cd ∧ rl.length ≤ 13 := by
  cases h : okL ps W H
  · exact ⟨[], 1, .inl ⟨h, rfl, rfl⟩, by simp⟩
  · obtain ⟨t, y⟩ := okL_get h
    obtain ⟨l1, l2, l3, l4⟩ := y.len
    cases hs : sizeB nw nh
    · exact ⟨[], 4, .inr ⟨t, y, .inl ⟨hs, rfl, rfl⟩⟩, by simp⟩
    · by_cases hf : t.needW ≤ nw ∧ t.needH ≤ nh
      · exact ⟨_, 0, .inr ⟨t, y, .inr ⟨hs, .inl ⟨hf.1, hf.2, rfl, rfl⟩⟩⟩, by rw [Tr.length_parts, (t.fit_same nw nh).2.2.1]; omega⟩
      · exact ⟨ps, 10, .inr ⟨t, y, .inr ⟨hs, .inr ⟨hf, rfl, rfl⟩⟩⟩, by omega⟩
theorem fitQ_pos {ps : List PartV} {W H nw nh : Int} {t : Tr} {rl : List PartV} {cd : Int} (y : Lay ps W H t) (h : FitQ ps nw nh t rl cd) : 0 < rl.length ∧ rl.length ≤ 13 := by
  obtain ⟨l1, l2, l3, l4⟩ := y.len
  rcases h with ⟨_, _, rfl, _⟩ | ⟨_, rfl, _⟩
  · rw [Tr.length_parts, (t.fit_same nw nh).2.2.1]; omega
  · omega
theorem sizeB_le {a b : Int} (h : sizeB a b = true) : 2 ≤ a ∧ a ≤ 24 ∧ 2 ≤ b ∧ b ≤ 10 := by unfold sizeB at h; exact of_decide_eq_true h
end Go.Proofs.YtaacccooidehlaaDoor
