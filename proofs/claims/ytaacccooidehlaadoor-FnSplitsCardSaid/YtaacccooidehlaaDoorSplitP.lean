/-
  What parting a pane gives, and what a pane's block rewritten does to a tree. No program in sight but for the cells.
-/
import Derived.Test.YtaacccooidehlaaDoorMoveI
namespace Go.Proofs.YtaacccooidehlaaDoor
open Go.ChangeShapes Go.WideShapes Go.ChangeAt Go.RowKit
set_option linter.unusedVariables false
set_option linter.unusedSimpArgs false
/-- a pane's area has the columns and rows of its place -/
theorem whole_area {p : Int} {rw_ : Bool} : ∀ {t : Tr} {x y w h : Int} {a : AreaV}, t.panes.Nodup → a ∈ t.areas x y w h → a.pane = p → (if rw_ then a.h else a.w) = t.whole p rw_ w h
  | .leaf q, x, y, w, h, a, _, ha, hp => by
    simp only [Tr.areas, List.mem_singleton] at ha
    subst ha
    rfl
  | .node rows size l r, x, y, w, h, a, hn, ha, hp => by
    simp only [Tr.panes] at hn
    obtain ⟨n1, n2, n3⟩ := List.nodup_append.1 hn
    simp only [Tr.areas, List.mem_append] at ha
    rcases ha with ha | ha
    · have hm : p ∈ l.panes := by rw [← l.areas_panes, ← hp]; exact List.mem_map_of_mem ha
      simp only [Tr.whole, if_pos hm]
      exact whole_area n1 ha hp
    · have hm : p ∈ r.panes := by rw [← r.areas_panes, ← hp]; exact List.mem_map_of_mem ha
      have hl : p ∉ l.panes := fun h' => n3 p h' p hm rfl
      simp only [Tr.whole, if_neg hl]
      exact whole_area n2 ha hp
theorem split_at {p fresh : Int} {rw_ : Bool} : ∀ {t : Tr} {s : Sh} {w w' : World} {W H : Int} {f n1 n2 : Nat} {u : Option Nat}, TreI w s t → s.bs.Nodup → t.panes.Nodup → s.find t p = some (f, u) →
    w'.heap[f]? = some (.cells (areaNd rw_ (t.whole p rw_ W H / 2) n1 n2) 77 (0, 0)) → w'.heap[n1]? = some (.cells (areaLf p) 77 (0, 0)) → w'.heap[n2]? = some (.cells (areaLf fresh) 77 (0, 0)) →
    (∀ k ∈ s.bs, k ≠ f → w'.heap[k]? = w.heap[k]?) → ∃ s', TreI w' s' (t.split p fresh rw_ W H) ∧ s'.root = s.root
  | .leaf q, s, w, w', W, H, f, n1, n2, u, h, hn, hpn, e, hf, h1, h2, hk => by
    obtain ⟨b, rfl, hb⟩ := TreG.leaf h
    simp only [Sh.find] at e
    split at e
    · rename_i hq
      simp only [Option.some.injEq, Prod.mk.injEq] at e
      obtain ⟨rfl, _⟩ := e
      subst hq
      refine ⟨.nd b (.lf n1) (.lf n2), ?_, rfl⟩
      have hs : (Tr.leaf q).split q fresh rw_ W H = .node rw_ (if rw_ then H / 2 else W / 2) (.leaf q) (.leaf fresh) := by simp [Tr.split]
      rw [hs]
      refine ⟨?_, h1, h2⟩
      have hz : (Tr.leaf q).whole q rw_ W H / 2 = (if rw_ then H / 2 else W / 2) := by simp only [Tr.whole]; cases rw_ <;> rfl
      rw [← hz]; exact hf
    · cases e
  | .node rows size l r, s, w, w', W, H, f, n1, n2, u, h, hn, hpn, e, hf, h1, h2, hk => by
    obtain ⟨b, sl, sr, rfl, hb, t1, t2⟩ := TreG.node h
    obtain ⟨m1, m2, m3, m4, m5⟩ := Sh.nodup hn
    simp only [Tr.panes] at hpn
    obtain ⟨q1, q2, q3⟩ := List.nodup_append.1 hpn
    simp only [Sh.find] at e
    cases e1 : sl.find l p with
    | some x =>
      obtain ⟨f', u'⟩ := x
      rw [e1] at e
      simp only [Option.some.injEq, Prod.mk.injEq] at e
      obtain ⟨rfl, _⟩ := e
      have hpl := find_mem t1 e1
      have hpr : p ∉ r.panes := fun h' => q3 p hpl p h' rfl
      have hfm := (find_heap t1 e1).2
      simp only [Tr.whole, if_pos hpl] at hf
      obtain ⟨s', k1, k2⟩ := split_at (fresh := fresh) t1 m3 q1 e1 hf h1 h2 (fun k hk' hne => hk k (by simp [Sh.bs, hk']) hne)
      have hbf : b ≠ f' := fun e => m1 (by rw [e]; exact hfm)
      refine ⟨.nd b s' sr, ?_, rfl⟩
      simp only [Tr.split, Tr.split_none hpr]
      refine ⟨?_, k1, TreG.congr t2 fun k hk' => hk k (by simp [Sh.bs, hk']) (fun e => m5 f' hfm (by rw [← e]; exact hk'))⟩
      rw [k2, hk b (by simp [Sh.bs]) hbf]; exact hb
    | none =>
      rw [e1] at e
      have hpl := (find_none t1).1 e1
      cases e2 : sr.find r p with
      | none => rw [e2] at e; simp at e
      | some x =>
        obtain ⟨f', u'⟩ := x
        rw [e2] at e
        simp only [Option.some.injEq, Prod.mk.injEq] at e
        obtain ⟨rfl, _⟩ := e
        have hfm := (find_heap t2 e2).2
        simp only [Tr.whole, if_neg hpl] at hf
        obtain ⟨s', k1, k2⟩ := split_at (fresh := fresh) t2 m4 q2 e2 hf h1 h2 (fun k hk' hne => hk k (by simp [Sh.bs, hk']) hne)
        have hbf : b ≠ f' := fun e => m2 (by rw [e]; exact hfm)
        refine ⟨.nd b sl s', ?_, rfl⟩
        simp only [Tr.split, Tr.split_none hpl]
        refine ⟨?_, TreG.congr t1 fun k hk' => hk k (by simp [Sh.bs, hk']) (fun e => m5 f' (by rw [← e]; exact hk') hfm), k1⟩
        rw [k2, hk b (by simp [Sh.bs]) hbf]; exact hb
/-- what parting a pane gives -/
def SplitO (W H p fr : Int) (rw_ : Bool) (t : Tr) (t' : Tr) (cd : Int) : Prop :=
  (p ∉ t.panes ∧ t' = t ∧ cd = 5) ∨ (p ∈ t.panes ∧ fr ∈ t.panes ∧ t' = t ∧ cd = 9) ∨ (p ∈ t.panes ∧ fr ∉ t.panes ∧ t.leaves = 6 ∧ t' = t ∧ cd = 7) ∨
  (p ∈ t.panes ∧ fr ∉ t.panes ∧ t.leaves ≠ 6 ∧ t.whole p rw_ W H / 2 < 2 ∧ t' = t ∧ cd = 10) ∨
  (p ∈ t.panes ∧ fr ∉ t.panes ∧ t.leaves ≠ 6 ∧ 2 ≤ t.whole p rw_ W H / 2 ∧ t' = t.split p fr rw_ W H ∧ cd = 0)
theorem splitO_total (W H p fr : Int) (rw_ : Bool) (t : Tr) : ∃ t' cd, SplitO W H p fr rw_ t t' cd := by
  by_cases hp : p ∈ t.panes
  · by_cases hf : fr ∈ t.panes
    · exact ⟨_, _, .inr (.inl ⟨hp, hf, rfl, rfl⟩)⟩
    · by_cases h6 : t.leaves = 6
      · exact ⟨_, _, .inr (.inr (.inl ⟨hp, hf, h6, rfl, rfl⟩))⟩
      · by_cases hw : t.whole p rw_ W H / 2 < 2
        · exact ⟨_, _, .inr (.inr (.inr (.inl ⟨hp, hf, h6, hw, rfl, rfl⟩)))⟩
        · exact ⟨_, _, .inr (.inr (.inr (.inr ⟨hp, hf, h6, by omega, rfl, rfl⟩)))⟩
  · exact ⟨_, _, .inl ⟨hp, rfl, rfl⟩⟩
theorem splitO_ok {ps : List PartV} {W H : Int} {t : Tr} (y : Lay ps W H t) {p fr : Int} (hf1 : 1 ≤ fr) (hf2 : fr ≤ 1000) {rw_ : Bool} {t' : Tr} {cd : Int} (h : SplitO W H p fr rw_ t t' cd) : Lay (t'.parts 0) W H t' := by
  have keep : ∀ {t' : Tr}, t' = t → Lay (t'.parts 0) W H t' := fun e => by subst e; exact ⟨y.w1, y.w2, y.h1, y.h2, y.lv, rfl, y.ft, y.nd⟩
  rcases h with ⟨_, e, _⟩ | ⟨_, _, e, _⟩ | ⟨_, _, _, e, _⟩ | ⟨_, _, _, _, e, _⟩ | ⟨hp, hf, h6, hw, e, _⟩
  · exact keep e
  · exact keep e
  · exact keep e
  · exact keep e
  · subst e
    obtain ⟨k1, k2, k3⟩ := Tr.split_facts (fresh := fr) (rw_ := rw_) (w := W) (h := H) y.nd hp
    have := y.lv
    exact ⟨y.w1, y.w2, y.h1, y.h2, by omega, rfl, (Tr.split_fits hf1 hf2 y.nd hp y.ft).2 hw, k3 hf⟩
def SplitQ (W H p fr : Int) (rw_ : Bool) (t : Tr) (rl : List PartV) (cd : Int) : Prop := 1 ≤ fr ∧ fr ≤ 1000 ∧ ∃ t', SplitO W H p fr rw_ t t' cd ∧ rl = t'.parts 0
def SplitR (ps : List PartV) (W H p fr : Int) (rw_ : Bool) (rl : List PartV) (cd : Int) : Prop :=
  (okL ps W H = false ∧ rl = [] ∧ cd = 1) ∨ ∃ t, Lay ps W H t ∧ ((inB fr 1 1000 = false ∧ rl = [] ∧ cd = 4) ∨ (inB fr 1 1000 = true ∧ SplitQ W H p fr rw_ t rl cd))
theorem splitQ_pos {ps : List PartV} {W H p fr : Int} {rw_ : Bool} {t : Tr} {rl : List PartV} {cd : Int} (y : Lay ps W H t) (h : SplitQ W H p fr rw_ t rl cd) : 0 < rl.length ∧ rl.length ≤ 13 := by
  obtain ⟨f1, f2, t', h, rfl⟩ := h
  obtain ⟨l1, l2, l3, l4⟩ := (splitO_ok y f1 f2 h).len
  rw [Tr.length_parts]; omega
theorem splitR_total (ps : List PartV) (W H p fr : Int) (rw_ : Bool) : ∃ rl cd, SplitR ps W H p fr rw_ rl cd ∧ rl.length ≤ 13 := by
  cases h : okL ps W H
  · exact ⟨[], 1, .inl ⟨h, rfl, rfl⟩, by simp⟩
  · obtain ⟨t, y⟩ := okL_get h
    cases hb : inB fr 1 1000
    · exact ⟨[], 4, .inr ⟨t, y, .inl ⟨hb, rfl, rfl⟩⟩, by simp⟩
    · obtain ⟨t', cd, hk⟩ := splitO_total W H p fr rw_ t
      have hq : SplitQ W H p fr rw_ t (t'.parts 0) cd := ⟨(inB_le hb).1, (inB_le hb).2, t', hk, rfl⟩
      exact ⟨_, cd, .inr ⟨t, y, .inr ⟨hb, hq⟩⟩, (splitQ_pos y hq).2⟩
end Go.Proofs.YtaacccooidehlaaDoor
