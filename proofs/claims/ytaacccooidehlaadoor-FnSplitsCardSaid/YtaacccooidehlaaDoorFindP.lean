/-
  What the places that find gives are good for: a split's block rewritten is the tree with that pane removed, or with its border moved; a pane's block rewritten is the tree with that pane parted. No program in sight but for the cells.
-/
import Derived.Test.YtaacccooidehlaaDoorFindI
namespace Go.Proofs.YtaacccooidehlaaDoor
open Go.ChangeShapes Go.WideShapes Go.ChangeAt Go.RowKit
set_option linter.unusedVariables false
set_option linter.unusedSimpArgs false
theorem find_none : ∀ {t : Tr} {s : Sh} {w : World} {p : Int}, TreI w s t → (s.find t p = none ↔ p ∉ t.panes)
  | .leaf q, s, w, p, h => by
    obtain ⟨b, rfl, _⟩ := TreG.leaf h
    simp only [Sh.find, Tr.panes, List.mem_singleton]
    by_cases e : q = p
    · simp [e]
    · simp [e]; exact fun h => e h.symm
  | .node rows size l r, s, w, p, h => by
    obtain ⟨b, sl, sr, rfl, _, h1, h2⟩ := TreG.node h
    have a := find_none (p := p) h1
    have c := find_none (p := p) h2
    simp only [Sh.find, Tr.panes, List.mem_append, not_or]
    cases e1 : sl.find l p with
    | some x => rw [e1] at a; simp at a; simp [a]
    | none =>
      rw [e1] at a
      cases e2 : sr.find r p with
      | some x => rw [e2] at c; simp at c; simp [c]
      | none => rw [e2] at c; simp at a c; simp [a, c]
/-- a pane without a split is the whole -/
theorem find_root : ∀ {t : Tr} {s : Sh} {w : World} {p : Int} {f : Nat}, TreI w s t → s.find t p = some (f, none) → t = .leaf p ∧ s = .lf f
  | .leaf q, s, w, p, f, h, e => by
    obtain ⟨b, rfl, _⟩ := TreG.leaf h
    simp only [Sh.find] at e
    split at e
    · rename_i hq
      simp only [Option.some.injEq, Prod.mk.injEq, and_true] at e
      exact ⟨by rw [hq], by rw [e]⟩
    · cases e
  | .node rows size l r, s, w, p, f, h, e => by
    obtain ⟨b, sl, sr, rfl, _, h1, h2⟩ := TreG.node h
    simp only [Sh.find] at e
    cases e1 : sl.find l p with
    | some x => rw [e1] at e; simp at e
    | none =>
      rw [e1] at e
      cases e2 : sr.find r p with
      | some x => rw [e2] at e; simp at e
      | none => rw [e2] at e; simp at e
theorem find_mem {t : Tr} {s : Sh} {w : World} {p : Int} {x : Nat × Option Nat} (h : TreI w s t) (e : s.find t p = some x) : p ∈ t.panes := by
  refine Classical.byContradiction fun hn => ?_
  rw [(find_none h).2 hn] at e; cases e
theorem find_heap : ∀ {t : Tr} {s : Sh} {w : World} {p : Int} {f : Nat} {u : Option Nat}, TreI w s t → s.find t p = some (f, u) → w.heap[f]? = some (.cells (areaLf p) 77 (0, 0)) ∧ f ∈ s.bs
  | .leaf q, s, w, p, f, u, h, e => by
    obtain ⟨b, rfl, hb⟩ := TreG.leaf h
    simp only [Sh.find] at e
    split at e
    · rename_i hq
      simp only [Option.some.injEq, Prod.mk.injEq] at e
      obtain ⟨rfl, _⟩ := e
      subst hq
      exact ⟨hb, by simp [Sh.bs]⟩
    · cases e
  | .node rows size l r, s, w, p, f, u, h, e => by
    obtain ⟨b, sl, sr, rfl, _, h1, h2⟩ := TreG.node h
    simp only [Sh.find] at e
    cases e1 : sl.find l p with
    | some x =>
      obtain ⟨f', u'⟩ := x
      rw [e1] at e
      simp only [Option.some.injEq, Prod.mk.injEq] at e
      obtain ⟨rfl, _⟩ := e
      have := find_heap h1 e1
      exact ⟨this.1, by simp [Sh.bs, this.2]⟩
    | none =>
      rw [e1] at e
      cases e2 : sr.find r p with
      | none => rw [e2] at e; simp at e
      | some x =>
        obtain ⟨f', u'⟩ := x
        rw [e2] at e
        simp only [Option.some.injEq, Prod.mk.injEq] at e
        obtain ⟨rfl, _⟩ := e
        have := find_heap h2 e2
        exact ⟨this.1, by simp [Sh.bs, this.2]⟩
theorem isL_false_of {t : Tr} {p : Int} (h : p ∉ t.panes) : t.isL p = false := by
  cases e : t.isL p with
  | false => rfl
  | true => exact absurd (Tr.isL_mem e) h
theorem heap_fun {w : World} {b : Nat} {cs cs' : Array Value} {t t' : TypeId} {fr fr' : Nat × Nat} (h : w.heap[b]? = some (.cells cs t fr)) (h' : w.heap[b]? = some (.cells cs' t' fr')) : cs = cs' := by
  rw [h] at h'
  injection h' with h'
  injection h' with h' _ _
/-- the cells of a tree's root, put into another block: the tree with that root -/
def Sh.reroot (u : Nat) : Sh → Sh
  | .lf _ => .lf u
  | .nd _ l r => .nd u l r
theorem reroot_root (u : Nat) (s : Sh) : (s.reroot u).root = u := by cases s <;> rfl
def Five (oc : Array Value) : Prop := ∃ o0 o1 o2 o3 o4, oc = #[.int .i64 o0, .bool o1, .int .i64 o2, .pointer o3, .pointer o4]
theorem rootCells {w : World} {s : Sh} {t : Tr} (h : TreI w s t) : ∃ oc, w.heap[s.root]? = some (.cells oc 77 (0, 0)) ∧ Five oc := by
  cases t with
  | leaf p => obtain ⟨b, rfl, hb⟩ := TreG.leaf h; exact ⟨_, hb, _, _, _, _, _, rfl⟩
  | node rows size l r => obtain ⟨b, sl, sr, rfl, hb, _⟩ := TreG.node h; exact ⟨_, hb, _, _, _, _, _, rfl⟩
theorem reroot_tree {w w' : World} {s : Sh} {t : Tr} {u : Nat} {oc : Array Value} (h : TreI w s t) (ho : w.heap[s.root]? = some (.cells oc 77 (0, 0))) (hu : u ∉ s.bs) (hn : s.bs.Nodup) (hw : w'.heap[u]? = some (.cells oc 77 (0, 0))) (hk : ∀ k ∈ s.bs, w'.heap[k]? = w.heap[k]?) :
    TreI w' (s.reroot u) t ∧ (s.reroot u).bs.Nodup ∧ ∀ x ∈ (s.reroot u).bs, x = u ∨ x ∈ s.bs := by
  cases t with
  | leaf p =>
    obtain ⟨b, rfl, hb⟩ := TreG.leaf h
    have e := heap_fun hb ho
    subst e
    exact ⟨hw, by simp [Sh.reroot, Sh.bs], fun x hx => .inl (by simpa [Sh.reroot, Sh.bs] using hx)⟩
  | node rows size l r =>
    obtain ⟨b, sl, sr, rfl, hb, h1, h2⟩ := TreG.node h
    have e := heap_fun hb ho
    subst e
    simp only [Sh.bs, List.mem_cons, List.mem_append, not_or] at hu
    obtain ⟨n1, n2, n3, n4, n5⟩ := Sh.nodup hn
    refine ⟨⟨hw, TreG.congr h1 fun k hk' => hk k (by simp [Sh.bs, hk']), TreG.congr h2 fun k hk' => hk k (by simp [Sh.bs, hk'])⟩, ?_, fun x hx => ?_⟩
    · show (Sh.nd u sl sr).bs.Nodup
      simp only [Sh.bs, List.nodup_cons, List.mem_append, not_or]
      exact ⟨⟨hu.2.1, hu.2.2⟩, List.nodup_append.2 ⟨n3, n4, fun a ha b hb e => n5 a ha (by rw [e]; exact hb)⟩⟩
    · simp only [Sh.reroot, Sh.bs, List.mem_cons, List.mem_append] at hx ⊢
      rcases hx with rfl | hx | hx
      · exact .inl rfl
      · exact .inr (.inr (.inl hx))
      · exact .inr (.inr (.inr hx))
theorem Sh.nodup_mk' {b : Nat} {l r : Sh} (h1 : b ∉ l.bs) (h2 : b ∉ r.bs) (h3 : l.bs.Nodup) (h4 : r.bs.Nodup) (h5 : ∀ x ∈ l.bs, x ∉ r.bs) : (Sh.nd b l r).bs.Nodup := by
  simp only [Sh.bs, List.nodup_cons, List.mem_append, not_or]
  exact ⟨⟨h1, h2⟩, List.nodup_append.2 ⟨h3, h4, fun a ha b hb e => h5 a ha (by rw [e]; exact hb)⟩⟩
/-- a split's block: its cells; and what the tree becomes when the other part's cells are put there -/
structure KillAt (w : World) (s : Sh) (t : Tr) (p : Int) (f u : Nat) : Prop where
  mem : u ∈ s.bs
  ex : ∃ rows size a b oc, w.heap[u]? = some (.cells (areaNd rows size a b) 77 (0, 0)) ∧ (f = a ∨ f = b) ∧ a ≠ b ∧ w.heap[if a = f then b else a]? = some (.cells oc 77 (0, 0)) ∧ Five oc ∧ (if a = f then b else a) ≠ u ∧
    ∀ w' : World, w'.heap[u]? = some (.cells oc 77 (0, 0)) → (∀ k ∈ s.bs, k ≠ u → w'.heap[k]? = w.heap[k]?) → ∃ s', TreI w' s' (t.kill p) ∧ s'.root = s.root ∧ s'.bs.Nodup ∧ ∀ x ∈ s'.bs, x ∈ s.bs
theorem kill_at : ∀ {t : Tr} {s : Sh} {w : World} {p : Int} {f u : Nat}, TreI w s t → s.bs.Nodup → t.panes.Nodup → s.find t p = some (f, some u) → KillAt w s t p f u
  | .leaf q, s, w, p, f, u, h, _, _, e => by
    obtain ⟨b, rfl, _⟩ := TreG.leaf h
    simp only [Sh.find] at e
    split at e <;> simp at e
  | .node rows size l r, s, w, p, f, u, h, hn, hpn, e => by
    obtain ⟨b, sl, sr, rfl, hb, h1, h2⟩ := TreG.node h
    obtain ⟨n1, n2, n3, n4, n5⟩ := Sh.nodup hn
    simp only [Tr.panes] at hpn
    obtain ⟨q1, q2, q3⟩ := List.nodup_append.1 hpn
    have hrr : sl.root ≠ sr.root := fun e => n5 _ sl.root_mem (by rw [e]; exact sr.root_mem)
    have hbl : sl.root ≠ b := fun e => n1 (by rw [← e]; exact sl.root_mem)
    have hbr : sr.root ≠ b := fun e => n2 (by rw [← e]; exact sr.root_mem)
    simp only [Sh.find] at e
    cases e1 : sl.find l p with
    | some x =>
      obtain ⟨f', u'⟩ := x
      rw [e1] at e
      simp only [Option.some.injEq, Prod.mk.injEq] at e
      obtain ⟨rfl, rfl⟩ := e
      have hpl := find_mem h1 e1
      have hpr : p ∉ r.panes := fun h' => q3 p hpl p h' rfl
      cases u' with
      | none =>
        obtain ⟨rfl, rfl⟩ := find_root h1 e1
        show KillAt _ _ _ _ _ b
        obtain ⟨oc, ho, hsz⟩ := rootCells h2
        refine ⟨by simp [Sh.bs], rows, size, _, _, oc, hb, .inl rfl, hrr, by rw [if_pos (show (Sh.lf f').root = f' from rfl)]; exact ho, hsz, by rw [if_pos (show (Sh.lf f').root = f' from rfl)]; exact hbr, fun w' hw hk => ?_⟩
        obtain ⟨k1, k2, k3⟩ := reroot_tree (u := b) h2 ho n2 n4 hw (fun k hk' => hk k (by simp [Sh.bs, hk']) (fun e => n2 (by rw [← e]; exact hk')))
        refine ⟨sr.reroot b, ?_, reroot_root _ _, k2, fun x hx => ?_⟩
        · have : (Tr.node rows size (.leaf p) r).kill p = r := by simp [Tr.kill, Tr.isL]
          rw [this]; exact k1
        · rcases k3 x hx with rfl | hx
          · simp [Sh.bs]
          · simp [Sh.bs, hx]
      | some u'' =>
        show KillAt _ _ _ _ _ u''
        obtain ⟨m, rows', size', a, c, oc, hu, hf, hab, ho, hsz, hne, K⟩ := kill_at h1 n3 q1 e1
        refine ⟨by simp [Sh.bs, m], rows', size', a, c, oc, hu, hf, hab, ho, hsz, hne, fun w' hw hk => ?_⟩
        have hub : b ≠ u'' := fun e => n1 (by rw [e]; exact m)
        obtain ⟨s', t1, t2, t3, t4⟩ := K w' hw (fun k hk' hne => hk k (by simp [Sh.bs, hk']) hne)
        have hil : l.isL p = false := by
          cases e : l.isL p with
          | false => rfl
          | true =>
            rw [Tr.isL_eq e] at h1 e1
            obtain ⟨b', rfl, _⟩ := TreG.leaf h1
            simp [Sh.find] at e1
        refine ⟨.nd b s' sr, ?_, rfl, Sh.nodup_mk' (fun h => n1 (t4 _ h)) n2 t3 n4 (fun x hx => n5 x (t4 x hx)), fun x hx => ?_⟩
        · have : (Tr.node rows size l r).kill p = .node rows size (l.kill p) r := by simp [Tr.kill, hil, isL_false_of hpr, Tr.kill_none hpr]
          rw [this]
          refine ⟨?_, t1, TreG.congr h2 fun k hk' => hk k (by simp [Sh.bs, hk']) (fun e => n5 u'' m (by rw [← e]; exact hk'))⟩
          rw [t2, hk b (by simp [Sh.bs]) hub]; exact hb
        · simp only [Sh.bs, List.mem_cons, List.mem_append] at hx ⊢
          rcases hx with rfl | hx | hx
          · exact .inl rfl
          · exact .inr (.inl (t4 x hx))
          · exact .inr (.inr hx)
    | none =>
      rw [e1] at e
      have hpl := (find_none h1).1 e1
      cases e2 : sr.find r p with
      | none => rw [e2] at e; simp at e
      | some x =>
        obtain ⟨f', u'⟩ := x
        rw [e2] at e
        simp only [Option.some.injEq, Prod.mk.injEq] at e
        obtain ⟨rfl, rfl⟩ := e
        cases u' with
        | none =>
          obtain ⟨rfl, rfl⟩ := find_root h2 e2
          show KillAt _ _ _ _ _ b
          obtain ⟨oc, ho, hsz⟩ := rootCells h1
          have hc : ¬ sl.root = f' := hrr
          refine ⟨by simp [Sh.bs], rows, size, _, _, oc, hb, .inr rfl, hrr, by rw [if_neg hc]; exact ho, hsz, by rw [if_neg hc]; exact hbl, fun w' hw hk => ?_⟩
          obtain ⟨k1, k2, k3⟩ := reroot_tree (u := b) h1 ho n1 n3 hw (fun k hk' => hk k (by simp [Sh.bs, hk']) (fun e => n1 (by rw [← e]; exact hk')))
          refine ⟨sl.reroot b, ?_, reroot_root _ _, k2, fun x hx => ?_⟩
          · have : (Tr.node rows size l (.leaf p)).kill p = l := by simp [Tr.kill, isL_false_of hpl]; simp [Tr.isL]
            rw [this]; exact k1
          · rcases k3 x hx with rfl | hx
            · simp [Sh.bs]
            · simp [Sh.bs, hx]
        | some u'' =>
          show KillAt _ _ _ _ _ u''
          obtain ⟨m, rows', size', a, c, oc, hu, hf, hab, ho, hsz, hne, K⟩ := kill_at h2 n4 q2 e2
          refine ⟨by simp [Sh.bs, m], rows', size', a, c, oc, hu, hf, hab, ho, hsz, hne, fun w' hw hk => ?_⟩
          have hub : b ≠ u'' := fun e => n2 (by rw [e]; exact m)
          obtain ⟨s', t1, t2, t3, t4⟩ := K w' hw (fun k hk' hne => hk k (by simp [Sh.bs, hk']) hne)
          have hir : r.isL p = false := by
            cases e : r.isL p with
            | false => rfl
            | true =>
              rw [Tr.isL_eq e] at h2 e2
              obtain ⟨b', rfl, _⟩ := TreG.leaf h2
              simp [Sh.find] at e2
          refine ⟨.nd b sl s', ?_, rfl, Sh.nodup_mk' n1 (fun h => n2 (t4 _ h)) n3 t3 (fun x hx h => n5 x hx (t4 x h)), fun x hx => ?_⟩
          · have : (Tr.node rows size l r).kill p = .node rows size l (r.kill p) := by simp [Tr.kill, hir, isL_false_of hpl, Tr.kill_none hpl]
            rw [this]
            refine ⟨?_, TreG.congr h1 fun k hk' => hk k (by simp [Sh.bs, hk']) (fun e => n5 u'' (by rw [← e]; exact hk') m), t1⟩
            rw [t2, hk b (by simp [Sh.bs]) hub]; exact hb
          · simp only [Sh.bs, List.mem_cons, List.mem_append] at hx ⊢
            rcases hx with rfl | hx | hx
            · exact .inl rfl
            · exact .inr (.inl hx)
            · exact .inr (.inr (t4 x hx))
end Go.Proofs.YtaacccooidehlaaDoor
