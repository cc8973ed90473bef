/-
  Contract of the reference's l05Move. Conditions: the tree lies so, it is a layout's.
-/
import Derived.Test.YtaacccooidehlaaDoorTreFind
import Derived.Test.YtaacccooidehlaaDoorMoveI
namespace Go.Proofs.YtaacccooidehlaaDoor
open Go.ChangeShapes Go.WideShapes Go.ChangeAt Go.RowKit
set_option linter.unusedVariables false
set_option linter.unusedSimpArgs false
set_option maxRecDepth 100000
def Tr.isNd : Tr → Bool
  | .leaf _ => false
  | .node _ _ _ _ => true
/-- a part's root, as far as the tests for a pane's leaf look at it -/
inductive RootS (w : World) (s : Sh) (t : Tr) (p : Int) (fl : Bool) (pl : Int) : Prop where
  | leaf (h : t = .leaf p) (h1 : fl = true) (h2 : (pl == p) = true)
  | node (h : t.isL p = false) (h0 : t.isNd = true) (h1 : fl = false)
  | other (h : t.isL p = false) (h0 : p ∉ t.panes) (h1 : fl = true) (h2 : (pl == p) = false)
theorem rootS_any {w : World} {s : Sh} {t : Tr} (h : TreS w s t) (p : Int) : ∃ fl pl, w.cell? ⟨s.root, 3, none⟩ = some (.bool fl) ∧ w.cell? ⟨s.root, 0, none⟩ = some (.int .i64 pl) ∧ RootS w s t p fl pl := by
  cases t with
  | leaf q =>
    obtain ⟨b, rfl, hb⟩ := TreG.leaf h
    have x := box_cells hb
    refine ⟨true, q, x 3, x 0, ?_⟩
    by_cases e : q = p
    · exact .leaf (by rw [e]) rfl (by simp [e])
    · exact .other (by simp [Tr.isL, e]) (by simp [Tr.panes]; exact fun h => e h.symm) rfl (by simp [e])
  | node rows size l r =>
    obtain ⟨b, sl, sr, rfl, hb, _⟩ := TreG.node h
    have x := box_cells hb
    exact ⟨false, 0, x 3, x 0, .node rfl rfl rfl⟩
theorem Tr.move_none {p by_ : Int} : ∀ {t : Tr}, p ∉ t.panes → t.move p by_ = t
  | .leaf q, _ => rfl
  | .node rows size l r, h => by
    simp only [Tr.panes, List.mem_append, not_or] at h
    simp only [Tr.move, isL_false_of h.1, isL_false_of h.2, Bool.or_false, Bool.false_eq_true, if_false, if_neg h.1, Tr.move_none h.2]
theorem nd_of_mem {t : Tr} {p : Int} (h : p ∈ t.panes) (hl : t.isL p = false) : t.isNd = true := by
  cases t with
  | leaf q => simp only [Tr.panes, List.mem_singleton] at h; subst h; simp [Tr.isL] at hl
  | node _ _ _ _ => rfl
def MoveS (s : Sh) (t : Tr) (p by_ : Int) (w : World) (e : Ending) (w' : World) : Prop := e = .returned (.bool (decide (p ∈ t.panes) && t.isNd)) ∧ TreS w' s (t.move p by_) ∧ Only s.bs w w'
set_option maxHeartbeats 4000000 in
theorem l05Move_any (p by_ : Int) (hby1 : -100 ≤ by_) (hby2 : by_ ≤ 100) : ∀ (t : Tr) (s : Sh) (w : World), TreS w s t → s.bs.Nodup → t.panes.Nodup → t.okP →
    Calls Tryd.prog 54 #[.pointer (some ⟨s.root, 0, none⟩), .int .i64 p, .int .i64 by_] w (MoveS s t p by_ w) := by
  intro t
  induction t with
  | leaf q =>
    intro s w h hn hpn hok
    obtain ⟨c, rfl, hc⟩ := TreG.leaf h
    have x := box_cells hc 3
    have HH := Lib.hid h
    unfold treeLf at x
    simp only [List.getElem?_toArray, List.getElem?_cons_zero, List.getElem?_cons_succ] at x
    show Calls _ _ #[.pointer (some ⟨c, 0, none⟩), _, _] _ _
    clear h hc hn hpn hok
    go_enter Tryd.func54, Tryd.ntmps54
    go_wp2
    go_ret
    exact ⟨ret_bool (by simp [Tr.isNd]), HH.out, Only.refl _ _⟩
  | node rows size l r ihl ihr =>
    intro s w h hn hpn hok
    obtain ⟨c, sl, sr, rfl, hc, h1, h2⟩ := TreG.node h
    obtain ⟨n1, n2, n3, n4, n5⟩ := Sh.nodup hn
    obtain ⟨z1, z2, z3, z4⟩ := hok
    simp only [Tr.panes] at hpn
    obtain ⟨q1, q2, q3⟩ := List.nodup_append.1 hpn
    have HL := Lib.hid (ihl sl w h1 n3 q1 z3)
    have HR : Hid (∀ W, Only sl.bs w W → Calls Tryd.prog 54 #[.pointer (some ⟨sr.root, 0, none⟩), .int .i64 p, .int .i64 by_] W (MoveS sr r p by_ W)) := fun W ho => ihr sr W (TreG.only h2 ho fun b hb hm => n5 b hm hb) n4 q2 z4
    have x := box_cells hc
    have fz := box_free hc
    unfold treeNd at x
    have x1 := x 1
    have x3 := x 3
    have x4 := x 4
    have x5 := x 5
    have f1 := fz 1
    simp only [List.getElem?_toArray, List.getElem?_cons_zero, List.getElem?_cons_succ] at x1 x3 x4 x5
    obtain ⟨fl, pl, cl3, cl0, rl⟩ := rootS_any h1 p
    obtain ⟨fr, pr, cr3, cr0, rr⟩ := rootS_any h2 p
    have HC := Lib.hid hc
    have H1 := Lib.hid h1
    have H2 := Lib.hid h2
    have HW : Hid ((w.setCell ⟨c, 1, none⟩ (.int .i64 (size + by_))).heap[c]? = some (.cells (treeNd rows (size + by_) sl.root sr.root) 92 (0, 0))) := set_heap hc 1 _
    have HO : Hid (Only [c] w (w.setCell ⟨c, 1, none⟩ (.int .i64 (size + by_)))) := (Only.refl _ w).set (by simp) 1 _
    have HST : Hid ((Tr.node rows size l r).move p by_ = .node rows (size + by_) l r → p ∈ (Tr.node rows size l r).panes → MoveS (.nd c sl sr) (.node rows size l r) p by_ w (.returned (.bool true)) (w.setCell ⟨c, 1, none⟩ (.int .i64 (size + by_)))) := fun hm hp => by
      refine ⟨ret_bool (by simp [hp, Tr.isNd]), ?_, HO.out.mono (fun x hx => by simp at hx; subst hx; simp [Sh.bs])⟩
      rw [hm]
      exact ⟨HW.out, TreG.only H1.out HO.out (fun b hb hm => n1 (by simp at hm; subst hm; exact hb)), TreG.only H2.out HO.out (fun b hb hm => n2 (by simp at hm; subst hm; exact hb))⟩
    show Calls _ _ #[.pointer (some ⟨c, 0, none⟩), _, _] _ _
    clear h hc h1 h2 ihl ihr hn hpn x fz z3 z4
    rcases rl with ⟨rfl, rfl, e2⟩ | ⟨el, e0, rfl⟩ | ⟨el, e0, rfl, e2⟩
    · have HE := Lib.hid (HST.out (by simp [Tr.move, Tr.isL]) (by simp [Tr.panes]))
      clear HST HL HR HW HO rr
      go_enter Tryd.func54, Tryd.ntmps54
      go_wp2
      go_ret
      exact HE.out
    all_goals
      rcases rr with ⟨rfl, rfl, e4⟩ | ⟨er, e5, rfl⟩ | ⟨er, e5, rfl, e4⟩
      · have HE := Lib.hid (HST.out (by simp [Tr.move, Tr.isL]) (by simp [Tr.panes]))
        clear HST HL HR HW HO
        go_enter Tryd.func54, Tryd.ntmps54
        go_wp2
        go_ret
        exact HE.out
      all_goals
        by_cases hpl : p ∈ l.panes
        · have hb : (decide (p ∈ l.panes) && l.isNd) = true := by simp [hpl, nd_of_mem hpl el]
          have HM : Hid ((Tr.node rows size l r).move p by_ = .node rows size (l.move p by_) r) := by show _ = _; simp [Tr.move, el, er, hpl]
          have HB : Hid ((decide (p ∈ (Tr.node rows size l r).panes) && (Tr.node rows size l r).isNd) = true) := by show _ = _; simp [Tr.panes, hpl, Tr.isNd]
          unfold MoveS at HL
          rw [hb] at HL
          clear HST HR HW HO hb hpl
          go_enter Tryd.func54, Tryd.ntmps54
          go_wp2_with fail
          refine HL.out.mono ?_
          rintro e w2 ⟨rfl, ht, ho⟩
          have HE : Hid (MoveS (.nd c sl sr) (.node rows size l r) p by_ w (.returned (.bool true)) w2) := by
            refine ⟨ret_bool HB.out.symm, ?_, ho.mono (fun x hx => by simp [Sh.bs, hx])⟩
            rw [HM.out]
            exact ⟨(ho.block c (box_lt HC.out) n1).trans HC.out, ht, TreG.only H2.out ho (fun b hb hm => n5 b hm hb)⟩
          clear ht ho x1 x3 x4 x5 cl3 cl0 cr3 cr0
          go_wp2
          go_ret
          exact HE.out
        · have hb : (decide (p ∈ l.panes) && l.isNd) = false := by simp [hpl]
          have HM : Hid ((Tr.node rows size l r).move p by_ = .node rows size l (r.move p by_)) := by show _ = _; simp [Tr.move, el, er, hpl]
          have HB : Hid ((decide (p ∈ (Tr.node rows size l r).panes) && (Tr.node rows size l r).isNd) = (decide (p ∈ r.panes) && r.isNd)) := by
            show _ = _
            by_cases hpr : p ∈ r.panes
            · have e1 := nd_of_mem hpr er
              have e2 : (Tr.node rows size l r).isNd = true := rfl
              rw [e1, e2]; simp [Tr.panes, hpr]
            · simp [Tr.panes, hpl, hpr]
          have HLM : Hid (l.move p by_ = l) := Tr.move_none hpl
          unfold MoveS at HL
          rw [hb, HLM.out] at HL
          obtain ⟨br, hbr⟩ : ∃ b, (decide (p ∈ r.panes) && r.isNd) = b := ⟨_, rfl⟩
          have HRQ : Hid (∀ W, Only sl.bs w W → Calls Tryd.prog 54 #[.pointer (some ⟨sr.root, 0, none⟩), .int .i64 p, .int .i64 by_] W fun e w' => e = .returned (.bool br) ∧ TreS w' sr (r.move p by_) ∧ Only sr.bs W w') := fun W ho => by have h := HR.out W ho; unfold MoveS at h; rw [hbr] at h; exact h
          rw [hbr] at HB
          clear HST HW HO hb hpl HR hbr
          go_enter Tryd.func54, Tryd.ntmps54
          go_wp2_with fail
          refine HL.out.mono ?_
          rintro e w2 ⟨rfl, ht, ho⟩
          have HR2 := Lib.hid (HRQ.out w2 ho)
          have HC2 : Hid (w2.heap[c]? = some (.cells (treeNd rows size sl.root sr.root) 92 (0, 0))) := (ho.block c (box_lt HC.out) n1).trans HC.out
          have HT := Lib.hid ht
          have HO2 := Lib.hid ho
          have y5 := box_cells HC2.out 5
          unfold treeNd at y5
          simp only [List.getElem?_toArray, List.getElem?_cons_zero, List.getElem?_cons_succ] at y5
          clear ht ho x1 x3 x4 x5 cl3 cl0 cr3 cr0 HL HRQ
          go_wp2_with fail
          refine HR2.out.mono ?_
          rintro e w3 ⟨rfl, ht3, ho3⟩
          have HE : Hid (MoveS (.nd c sl sr) (.node rows size l r) p by_ w (.returned (.bool br)) w3) := by
            refine ⟨ret_bool HB.out.symm, ?_, (HO2.out.mono (fun x hx => by simp [Sh.bs, hx])).trans (ho3.mono (fun x hx => by simp [Sh.bs, hx]))⟩
            rw [HM.out]
            exact ⟨(ho3.block c (box_lt HC2.out) n2).trans HC2.out, TreG.only HT.out ho3 (fun b hb hm => n5 b hb hm), ht3⟩
          clear ht3 ho3 y5 HR2
          go_wp2
          go_ret
          exact HE.out
end Go.Proofs.YtaacccooidehlaaDoor
