/-
  Contract of the reference's l05Kill. Conditions: the tree lies so, it is a layout's.
-/
import Derived.Test.YtaacccooidehlaaDoorTreMove
namespace Go.Proofs.YtaacccooidehlaaDoor
open Go.ChangeShapes Go.WideShapes Go.ChangeAt Go.RowKit
set_option linter.unusedVariables false
set_option linter.unusedSimpArgs false
set_option maxRecDepth 100000
def KillS (s : Sh) (t : Tr) (p : Int) (w : World) (e : Ending) (w' : World) : Prop := ∃ s', e = .returned (.pointer (some ⟨s'.root, 0, none⟩)) ∧ TreS w' s' (t.kill p) ∧ s'.bs.Nodup ∧ (∀ x ∈ s'.bs, x ∈ s.bs) ∧ Only s.bs w w'
set_option maxHeartbeats 4000000 in
theorem l05Kill_any (p : Int) : ∀ (t : Tr) (s : Sh) (w : World), TreS w s t → s.bs.Nodup →
    Calls Tryd.prog 52 #[.pointer (some ⟨s.root, 0, none⟩), .int .i64 p] w (KillS s t p w) := by
  intro t
  induction t with
  | leaf q =>
    intro s w h hn
    obtain ⟨c, rfl, hc⟩ := TreG.leaf h
    have x := box_cells hc 3
    have HH := Lib.hid h
    have HN := Lib.hid hn
    unfold treeLf at x
    simp only [List.getElem?_toArray, List.getElem?_cons_zero, List.getElem?_cons_succ] at x
    show Calls _ _ #[.pointer (some ⟨c, 0, none⟩), _] _ _
    clear h hc hn
    go_enter Tryd.func52, Tryd.ntmps52
    go_wp2
    go_ret
    exact ⟨.lf c, rfl, HH.out, HN.out, fun _ h => h, Only.refl _ _⟩
  | node rows size l r ihl ihr =>
    intro s w h hn
    obtain ⟨c, sl, sr, rfl, hc, h1, h2⟩ := TreG.node h
    obtain ⟨n1, n2, n3, n4, n5⟩ := Sh.nodup hn
    have HL := Lib.hid (ihl sl w h1 n3)
    have HR : Hid (∀ W, TreS W sr r → Calls Tryd.prog 52 #[.pointer (some ⟨sr.root, 0, none⟩), .int .i64 p] W (KillS sr r p W)) := fun W ht => ihr sr W ht n4
    have x := box_cells hc
    have fz := box_free hc
    unfold treeNd at x
    have x3 := x 3
    have x4 := x 4
    have x5 := x 5
    simp only [List.getElem?_toArray, List.getElem?_cons_zero, List.getElem?_cons_succ] at x3 x4 x5
    obtain ⟨fl, pl, cl3, cl0, rl⟩ := rootS_any h1 p
    obtain ⟨fr, pr, cr3, cr0, rr⟩ := rootS_any h2 p
    have HC := Lib.hid hc
    have H1 := Lib.hid h1
    have H2 := Lib.hid h2
    show Calls _ _ #[.pointer (some ⟨c, 0, none⟩), _] _ _
    clear h hc h1 h2 ihl ihr hn x
    rcases rl with ⟨rfl, rfl, e2⟩ | ⟨el, e0, rfl⟩ | ⟨el, e0, rfl, e2⟩
    · have HE : Hid (KillS (.nd c sl sr) (.node rows size (.leaf p) r) p w (.returned (.pointer (some ⟨sr.root, 0, none⟩))) w) := ⟨sr, rfl, by rw [show (Tr.node rows size (.leaf p) r).kill p = r from by simp [Tr.kill, Tr.isL]]; exact H2.out, n4, fun x hx => by simp [Sh.bs, hx], Only.refl _ _⟩
      clear HL HR rr
      go_enter Tryd.func52, Tryd.ntmps52
      go_wp2
      go_ret
      exact HE.out
    all_goals
      rcases rr with ⟨rfl, rfl, e4⟩ | ⟨er, e5, rfl⟩ | ⟨er, e5, rfl, e4⟩
      · have HE : Hid (KillS (.nd c sl sr) (.node rows size l (.leaf p)) p w (.returned (.pointer (some ⟨sl.root, 0, none⟩))) w) := ⟨sl, rfl, by rw [show (Tr.node rows size l (.leaf p)).kill p = l from by simp only [Tr.kill, el, Bool.false_eq_true, if_false]; simp [Tr.isL]]; exact H1.out, n3, fun x hx => by simp [Sh.bs, hx], Only.refl _ _⟩
        clear HL HR
        go_enter Tryd.func52, Tryd.ntmps52
        go_wp2
        go_ret
        exact HE.out
      all_goals
        have HM : Hid ((Tr.node rows size l r).kill p = .node rows size (l.kill p) (r.kill p)) := by show _ = _; simp [Tr.kill, el, er]
        clear e0 e5
        go_enter Tryd.func52, Tryd.ntmps52
        go_wp2_with fail
        refine HL.out.mono ?_
        rintro e w1 ⟨s1, rfl, ht1, hn1, hs1, ho1⟩
        have hC1 := (ho1.block c (box_lt HC.out) n1).trans HC.out
        have y0 := box_cells hC1
        have fy := box_free hC1
        unfold treeNd at y0
        have y4 := y0 4
        have g4 := fy 4
        simp only [List.getElem?_toArray, List.getElem?_cons_zero, List.getElem?_cons_succ] at y4
        have HCW : Hid ((w1.setCell ⟨c, 4, none⟩ (.pointer (some ⟨s1.root, 0, none⟩))).heap[c]? = some (.cells (treeNd rows size s1.root sr.root) 92 (0, 0))) := set_heap hC1 4 _
        have HOW : Hid (Only (Sh.nd c sl sr).bs w (w1.setCell ⟨c, 4, none⟩ (.pointer (some ⟨s1.root, 0, none⟩)))) := (ho1.mono (fun x hx => by simp [Sh.bs, hx])).set (by simp [Sh.bs]) 4 _
        have HOC : Hid (Only [c] w1 (w1.setCell ⟨c, 4, none⟩ (.pointer (some ⟨s1.root, 0, none⟩)))) := (Only.refl _ w1).set (by simp) 4 _
        have HT1 : Hid (TreS (w1.setCell ⟨c, 4, none⟩ (.pointer (some ⟨s1.root, 0, none⟩))) s1 (l.kill p)) := TreG.only ht1 HOC.out (fun b hb hm => by simp at hm; subst hm; exact n1 (hs1 _ hb))
        have HT2 : Hid (TreS (w1.setCell ⟨c, 4, none⟩ (.pointer (some ⟨s1.root, 0, none⟩))) sr r) := TreG.only (TreG.only H2.out ho1 (fun b hb hm => n5 b hm hb)) HOC.out (fun b hb hm => by simp at hm; subst hm; exact n2 hb)
        have HR2 := Lib.hid (HR.out _ HT2.out)
        have y5 := box_cells HCW.out 5
        unfold treeNd at y5
        simp only [List.getElem?_toArray, List.getElem?_cons_zero, List.getElem?_cons_succ] at y5
        have HN1 := Lib.hid hn1
        have HS1 := Lib.hid hs1
        clear ht1 hn1 hs1 ho1 hC1 y0 fy x3 x4 x5 cl3 cl0 cr3 cr0 HL HR fz HOC
        go_wp2_with fail
        refine HR2.out.mono ?_
        clear y5 y4 g4
        rintro e w2 ⟨s2, rfl, ht2, hn2, hs2, ho2⟩
        have hC2 := (ho2.block c (box_lt HCW.out) n2).trans HCW.out
        have y0 := box_cells hC2
        have fy := box_free hC2
        unfold treeNd at y0
        have y5 := y0 5
        have g5 := fy 5
        simp only [List.getElem?_toArray, List.getElem?_cons_zero, List.getElem?_cons_succ] at y5
        have HE : Hid (KillS (.nd c sl sr) (.node rows size l r) p w (.returned (.pointer (some ⟨c, 0, none⟩))) (w2.setCell ⟨c, 5, none⟩ (.pointer (some ⟨s2.root, 0, none⟩)))) := by
          have ho3 : Only [c] w2 (w2.setCell ⟨c, 5, none⟩ (.pointer (some ⟨s2.root, 0, none⟩))) := (Only.refl _ w2).set (by simp) 5 _
          refine ⟨.nd c s1 s2, rfl, ?_, Sh.nodup_mk' (fun h => n1 (HS1.out _ h)) (fun h => n2 (hs2 _ h)) HN1.out hn2 (fun x hx h => n5 x (HS1.out x hx) (hs2 x h)), fun x hx => ?_, (HOW.out.trans (ho2.mono (fun x hx => by simp [Sh.bs, hx]))).set (by simp [Sh.bs]) 5 _⟩
          · rw [HM.out]
            exact ⟨set_heap hC2 5 _, TreG.only (TreG.only HT1.out ho2 (fun b hb hm => n5 b (HS1.out b hb) hm)) ho3 (fun b hb hm => by simp at hm; subst hm; exact n1 (HS1.out _ hb)), TreG.only ht2 ho3 (fun b hb hm => by simp at hm; subst hm; exact n2 (hs2 _ hb))⟩
          · simp only [Sh.bs, List.mem_cons, List.mem_append] at hx ⊢
            rcases hx with rfl | hx | hx
            · exact .inl rfl
            · exact .inr (.inl (HS1.out x hx))
            · exact .inr (.inr (hs2 x hx))
        clear ht2 hn2 hs2 ho2 hC2 y0 fy HR2 HCW HOW HT1 HT2
        go_wp2
        go_ret
        exact HE.out
end Go.Proofs.YtaacccooidehlaaDoor
