/-
  What KillArea answers. No program in sight but for the trees' cells. No condition.
-/
import Derived.Test.YtaacccooidehlaaDoorKillI
namespace Go.Proofs.YtaacccooidehlaaDoor
open Go.ChangeShapes Go.WideShapes Go.ChangeAt Go.RowKit
set_option linter.unusedVariables false
def KillQ (W H p : Int) (t : Tr) (rl : List PartV) (cd : Int) : Prop := ∃ t', KillO W H p t t' cd ∧ rl = t'.parts 0
def KillR (ps : List PartV) (W H p : Int) (rl : List PartV) (cd : Int) : Prop :=
  (okL ps W H = false ∧ rl = [] ∧ cd = 1) ∨ ∃ t, Lay ps W H t ∧ KillQ W H p t rl cd
theorem killO_total (W H p : Int) (t : Tr) : ∃ t' cd, KillO W H p t t' cd := by
  by_cases hp : p ∈ t.panes
  · by_cases h1 : t.leaves = 1
    · exact ⟨_, _, .inr (.inl ⟨hp, h1, rfl, rfl⟩)⟩
    · exact ⟨_, _, .inr (.inr ⟨hp, h1, rfl, rfl⟩)⟩
  · exact ⟨_, _, .inl ⟨hp, rfl, rfl⟩⟩
theorem kill_fit_facts {ps : List PartV} {W H : Int} {t : Tr} (y : Lay ps W H t) {p : Int} (hp : p ∈ t.panes) (h1 : t.leaves ≠ 1) :
    (t.kill p).okN ∧ (t.kill p).needW ≤ W ∧ (t.kill p).needH ≤ H ∧ (t.kill p).leaves + 1 = t.leaves ∧ ((t.kill p).fit W H).fits W H ∧ ((t.kill p).fit W H).panes = t.panes.erase p := by
  obtain ⟨k1, k2, k3, k4⟩ := Tr.kill_facts y.nd hp h1
  have hneed := Tr.fits_need y.ft
  have hok : (t.kill p).okN := fun q hq => Tr.fits_okN y.ft q (List.mem_of_mem_erase (by rw [k1] at hq; exact hq))
  exact ⟨hok, by omega, by omega, k2, Tr.fit_fits _ _ _ hok (by omega) (by omega), by rw [(Tr.fit_same _ _ _).1, k1]⟩
theorem killO_ok {ps : List PartV} {W H : Int} {t : Tr} (y : Lay ps W H t) {p : Int} {t' : Tr} {cd : Int} (h : KillO W H p t t' cd) : Lay (t'.parts 0) W H t' := by
  have keep : ∀ {t' : Tr}, t' = t → Lay (t'.parts 0) W H t' := fun e => by subst e; exact ⟨y.w1, y.w2, y.h1, y.h2, y.lv, rfl, y.ft, y.nd⟩
  rcases h with ⟨_, e, _⟩ | ⟨_, _, e, _⟩ | ⟨hp, h1, e, _⟩
  · exact keep e
  · exact keep e
  · subst e
    obtain ⟨f1, f2, f3, f4, f5, f6⟩ := kill_fit_facts y hp h1
    have hl := (Tr.fit_same (t.kill p) W H).2.1
    have := y.lv
    exact ⟨y.w1, y.w2, y.h1, y.h2, by omega, rfl, f5, by rw [f6]; exact y.nd.erase p⟩
theorem killQ_pos {ps : List PartV} {W H p : Int} {t : Tr} {rl : List PartV} {cd : Int} (y : Lay ps W H t) (h : KillQ W H p t rl cd) : 0 < rl.length ∧ rl.length ≤ 13 := by
  obtain ⟨t', h, rfl⟩ := h
  obtain ⟨l1, l2, l3, l4⟩ := (killO_ok y h).len
  rw [Tr.length_parts]; omega
theorem killR_total (ps : List PartV) (W H p : Int) : ∃ rl cd, KillR ps W H p rl cd ∧ rl.length ≤ 13 := by
  cases h : okL ps W H
  · exact ⟨[], 1, .inl ⟨h, rfl, rfl⟩, by simp⟩
  · obtain ⟨t, y⟩ := okL_get h
    obtain ⟨t', cd, hk⟩ := killO_total W H p t
    exact ⟨_, cd, .inr ⟨t, y, t', hk, rfl⟩, (killQ_pos y ⟨t', hk, rfl⟩).2⟩
end Go.Proofs.YtaacccooidehlaaDoor
