/-
  Contract of the given program's move, and what MoveSplit answers. Conditions: the tree lies so, it is a layout.
-/
import Derived.Test.YtaacccooidehlaaDoorKillQ
namespace Go.Proofs.YtaacccooidehlaaDoor
open Go.ChangeShapes Go.WideShapes Go.ChangeAt Go.RowKit
set_option linter.unusedVariables false
set_option linter.unusedSimpArgs false
set_option maxRecDepth 100000
/-- a split's block: its cells; and what the tree becomes when its size is turned there -/
structure MoveAt (w : World) (s : Sh) (t : Tr) (p by_ : Int) (u : Nat) : Prop where
  mem : u ∈ s.bs
  ex : ∃ rows size a b, w.heap[u]? = some (.cells (areaNd rows size a b) 77 (0, 0)) ∧ 1 ≤ size ∧ size ≤ 24 ∧
    ∀ w' : World, w'.heap[u]? = some (.cells (areaNd rows (size + by_) a b) 77 (0, 0)) → (∀ k ∈ s.bs, k ≠ u → w'.heap[k]? = w.heap[k]?) → TreI w' s (t.move p by_)
theorem move_at : ∀ {t : Tr} {s : Sh} {w : World} {p by_ : Int} {f u : Nat}, TreI w s t → t.okP → s.bs.Nodup → t.panes.Nodup → s.find t p = some (f, some u) → MoveAt w s t p by_ u
  | .leaf q, s, w, p, by_, f, u, h, _, _, _, e => by
    obtain ⟨b, rfl, _⟩ := TreG.leaf h
    simp only [Sh.find] at e
    split at e <;> simp at e
  | .node rows size l r, s, w, p, by_, f, u, h, hok, hn, hpn, e => by
    obtain ⟨b, sl, sr, rfl, hb, h1, h2⟩ := TreG.node h
    obtain ⟨n1, n2, n3, n4, n5⟩ := Sh.nodup hn
    obtain ⟨z1, z2, z3, z4⟩ := hok
    simp only [Tr.panes] at hpn
    obtain ⟨q1, q2, q3⟩ := List.nodup_append.1 hpn
    simp only [Sh.find] at e
    cases e1 : sl.find l p with
    | some x =>
      obtain ⟨f', u'⟩ := x
      rw [e1] at e
      simp only [Option.some.injEq, Prod.mk.injEq] at e
      obtain ⟨rfl, rfl⟩ := e
      have hpl := find_mem h1 e1
      have hpr : p ∉ r.panes := fun h' => q3 p hpl p h' rfl
      cases u' with
      | none =>
        show MoveAt _ _ _ _ _ b
        obtain ⟨rfl, rfl⟩ := find_root h1 e1
        refine ⟨by simp [Sh.bs], rows, size, _, _, hb, z1, z2, fun w' hw hk => ?_⟩
        have : (Tr.node rows size (.leaf p) r).move p by_ = .node rows (size + by_) (.leaf p) r := by simp [Tr.move, Tr.isL]
        rw [this]
        exact ⟨hw, TreG.congr h1 fun k hk' => hk k (by simp [Sh.bs] at hk' ⊢; exact .inr (.inl hk')) (fun e => n1 (by rw [← e]; exact hk')), TreG.congr h2 fun k hk' => hk k (by simp [Sh.bs, hk']) (fun e => n2 (by rw [← e]; exact hk'))⟩
      | some u'' =>
        show MoveAt _ _ _ _ _ u''
        obtain ⟨m, rows', size', a, c, hu, y1, y2, K⟩ := move_at (by_ := by_) h1 z3 n3 q1 e1
        refine ⟨by simp [Sh.bs, m], rows', size', a, c, hu, y1, y2, fun w' hw hk => ?_⟩
        have hub : b ≠ u'' := fun e => n1 (by rw [e]; exact m)
        have t1 := K w' hw (fun k hk' hne => hk k (by simp [Sh.bs, hk']) hne)
        have hil : l.isL p = false := by
          cases e : l.isL p with
          | false => rfl
          | true =>
            rw [Tr.isL_eq e] at h1 e1
            obtain ⟨b', rfl, _⟩ := TreG.leaf h1
            simp [Sh.find] at e1
        have : (Tr.node rows size l r).move p by_ = .node rows size (l.move p by_) r := by simp [Tr.move, hil, isL_false_of hpr, hpl]
        rw [this]
        refine ⟨?_, t1, TreG.congr h2 fun k hk' => hk k (by simp [Sh.bs, hk']) (fun e => n5 u'' m (by rw [← e]; exact hk'))⟩
        rw [hk b (by simp [Sh.bs]) hub]; exact hb
    | none =>
      rw [e1] at e
      have hpl := (find_none h1).1 e1
      cases e2 : sr.find r p with
      | none => rw [e2] at e; simp at e
      | some x =>
        obtain ⟨f', u'⟩ := x
        rw [e2] at e
        simp only [Option.some.injEq, Prod.mk.injEq] at e
        obtain ⟨rfl, rfl⟩ := e
        cases u' with
        | none =>
          show MoveAt _ _ _ _ _ b
          obtain ⟨rfl, rfl⟩ := find_root h2 e2
          refine ⟨by simp [Sh.bs], rows, size, _, _, hb, z1, z2, fun w' hw hk => ?_⟩
          have : (Tr.node rows size l (.leaf p)).move p by_ = .node rows (size + by_) l (.leaf p) := by simp [Tr.move, isL_false_of hpl]; simp [Tr.isL]
          rw [this]
          exact ⟨hw, TreG.congr h1 fun k hk' => hk k (by simp [Sh.bs, hk']) (fun e => n1 (by rw [← e]; exact hk')), TreG.congr h2 fun k hk' => hk k (by simp [Sh.bs] at hk' ⊢; exact .inr (.inr hk')) (fun e => n2 (by rw [← e]; exact hk'))⟩
        | some u'' =>
          show MoveAt _ _ _ _ _ u''
          obtain ⟨m, rows', size', a, c, hu, y1, y2, K⟩ := move_at (by_ := by_) h2 z4 n4 q2 e2
          refine ⟨by simp [Sh.bs, m], rows', size', a, c, hu, y1, y2, fun w' hw hk => ?_⟩
          have hub : b ≠ u'' := fun e => n2 (by rw [e]; exact m)
          have t1 := K w' hw (fun k hk' hne => hk k (by simp [Sh.bs, hk']) hne)
          have hir : r.isL p = false := by
            cases e : r.isL p with
            | false => rfl
            | true =>
              rw [Tr.isL_eq e] at h2 e2
              obtain ⟨b', rfl, _⟩ := TreG.leaf h2
              simp [Sh.find] at e2
          have : (Tr.node rows size l r).move p by_ = .node rows size l (r.move p by_) := by simp [Tr.move, hir, isL_false_of hpl, hpl]
          rw [this]
          refine ⟨?_, TreG.congr h1 fun k hk' => hk k (by simp [Sh.bs, hk']) (fun e => n5 u'' (by rw [← e]; exact hk') m), t1⟩
          rw [hk b (by simp [Sh.bs]) hub]; exact hb
/-- what moving a border gives -/
def MoveO (W H p by_ : Int) (t : Tr) (t' : Tr) (cd : Int) : Prop :=
  (p ∉ t.panes ∧ t' = t ∧ cd = 5) ∨ (p ∈ t.panes ∧ t.leaves = 1 ∧ t' = t ∧ cd = 17) ∨ (p ∈ t.panes ∧ t.leaves ≠ 1 ∧ t' = (t.move p by_).fit W H ∧ cd = 0)
theorem move_fit_facts {ps : List PartV} {W H : Int} {t : Tr} (y : Lay ps W H t) (p by_ : Int) :
    (t.move p by_).okN ∧ (t.move p by_).needW ≤ W ∧ (t.move p by_).needH ≤ H ∧ (t.move p by_).leaves = t.leaves ∧ ((t.move p by_).fit W H).fits W H ∧ ((t.move p by_).fit W H).panes = t.panes := by
  obtain ⟨k1, k2, k3, k4⟩ := Tr.move_same p by_ t
  have hneed := Tr.fits_need y.ft
  have hok : (t.move p by_).okN := fun q hq => Tr.fits_okN y.ft q (by rw [k1] at hq; exact hq)
  exact ⟨hok, by omega, by omega, k2, Tr.fit_fits _ _ _ hok (by omega) (by omega), by rw [(Tr.fit_same _ _ _).1, k1]⟩
theorem moveO_ok {ps : List PartV} {W H : Int} {t : Tr} (y : Lay ps W H t) {p by_ : Int} {t' : Tr} {cd : Int} (h : MoveO W H p by_ t t' cd) : Lay (t'.parts 0) W H t' := by
  have keep : ∀ {t' : Tr}, t' = t → Lay (t'.parts 0) W H t' := fun e => by subst e; exact ⟨y.w1, y.w2, y.h1, y.h2, y.lv, rfl, y.ft, y.nd⟩
  rcases h with ⟨_, e, _⟩ | ⟨_, _, e, _⟩ | ⟨hp, h1, e, _⟩
  · exact keep e
  · exact keep e
  · subst e
    obtain ⟨f1, f2, f3, f4, f5, f6⟩ := move_fit_facts y p by_
    have hl := (Tr.fit_same (t.move p by_) W H).2.1
    have := y.lv
    exact ⟨y.w1, y.w2, y.h1, y.h2, by omega, rfl, f5, by rw [f6]; exact y.nd⟩
def MoveQ (W H p by_ : Int) (t : Tr) (rl : List PartV) (cd : Int) : Prop := ∃ t', MoveO W H p by_ t t' cd ∧ rl = t'.parts 0
def inB (n lo hi : Int) : Bool := decide (lo ≤ n) && decide (n ≤ hi)
def MoveR (ps : List PartV) (W H p by_ : Int) (rl : List PartV) (cd : Int) : Prop :=
  (okL ps W H = false ∧ rl = [] ∧ cd = 1) ∨ ∃ t, Lay ps W H t ∧ ((inB by_ (-100) 100 = false ∧ rl = [] ∧ cd = 4) ∨ (inB by_ (-100) 100 = true ∧ MoveQ W H p by_ t rl cd))
theorem inB_le {n lo hi : Int} (h : inB n lo hi = true) : lo ≤ n ∧ n ≤ hi := by simpa [inB] using h
theorem within_inB (n lo hi : Int) (w : World) : Calls Tryd.prog 36 #[.int .i64 n, .int .i64 lo, .int .i64 hi] w fun e w' => e = .returned (.bool (inB n lo hi)) ∧ w = w' := within_any n lo hi w
theorem l01In_inB (n lo hi : Int) (w : World) : Calls Tryd.prog 21 #[.int .i64 n, .int .i64 lo, .int .i64 hi] w fun e w' => e = .returned (.bool (inB n lo hi)) ∧ w = w' := l01In_any n lo hi w
theorem moveO_total (W H p by_ : Int) (t : Tr) : ∃ t' cd, MoveO W H p by_ t t' cd := by
  by_cases hp : p ∈ t.panes
  · by_cases h1 : t.leaves = 1
    · exact ⟨_, _, .inr (.inl ⟨hp, h1, rfl, rfl⟩)⟩
    · exact ⟨_, _, .inr (.inr ⟨hp, h1, rfl, rfl⟩)⟩
  · exact ⟨_, _, .inl ⟨hp, rfl, rfl⟩⟩
theorem moveQ_pos {ps : List PartV} {W H p by_ : Int} {t : Tr} {rl : List PartV} {cd : Int} (y : Lay ps W H t) (h : MoveQ W H p by_ t rl cd) : 0 < rl.length ∧ rl.length ≤ 13 := by
  obtain ⟨t', h, rfl⟩ := h
  obtain ⟨l1, l2, l3, l4⟩ := (moveO_ok y h).len
  rw [Tr.length_parts]; omega
theorem moveR_total (ps : List PartV) (W H p by_ : Int) : ∃ rl cd, MoveR ps W H p by_ rl cd ∧ rl.length ≤ 13 := by
  cases h : okL ps W H
  · exact ⟨[], 1, .inl ⟨h, rfl, rfl⟩, by simp⟩
  · obtain ⟨t, y⟩ := okL_get h
    cases hb : inB by_ (-100) 100
    · exact ⟨[], 4, .inr ⟨t, y, .inl ⟨hb, rfl, rfl⟩⟩, by simp⟩
    · obtain ⟨t', cd, hk⟩ := moveO_total W H p by_ t
      exact ⟨_, cd, .inr ⟨t, y, .inr ⟨hb, t', hk, rfl⟩⟩, (moveQ_pos y ⟨t', hk, rfl⟩).2⟩
end Go.Proofs.YtaacccooidehlaaDoor
