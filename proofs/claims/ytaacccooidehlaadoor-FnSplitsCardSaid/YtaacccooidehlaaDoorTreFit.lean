/-
  Contracts of the reference's l05Least and l05Fit. Conditions: the tree lies so, its panes have right numbers, it has no more than a thousand.
-/
import Derived.Test.YtaacccooidehlaaDoorTreS
import Derived.Test.YtaacccooidehlaaDoorAreasT
namespace Go.Proofs.YtaacccooidehlaaDoor
open Go.ChangeShapes Go.WideShapes Go.ChangeAt Go.RowKit
set_option linter.unusedVariables false
set_option linter.unusedSimpArgs false
set_option maxRecDepth 100000
set_option maxHeartbeats 400000 in
theorem l05Least_any : ∀ (t : Tr) (s : Sh) (w : World), TreS w s t → t.leaves ≤ 1000 →
    Calls Tryd.prog 58 #[.pointer (some ⟨s.root, 0, none⟩)] w fun e w' => e = .returned (.tuple #[.int .i64 t.needW, .int .i64 t.needH]) ∧ w = w' := by
  intro t
  induction t with
  | leaf p =>
    intro s w h hl
    obtain ⟨b, rfl, hb⟩ := TreG.leaf h
    have x := box_cells hb
    unfold treeLf at x
    show Calls _ _ #[.pointer (some ⟨b, 0, none⟩)] _ _
    clear h hb hl
    go_enter Tryd.func58, Tryd.ntmps58
    go_wp2
    go_ret2
    exact ⟨rfl, rfl⟩
  | node rows size l r ihl ihr =>
    intro s w h hl
    obtain ⟨b, sl, sr, rfl, hb, h1, h2⟩ := TreG.node h
    simp only [Tr.leaves] at hl
    have HL := Lib.hid (ihl sl w h1 (by omega))
    have HR := Lib.hid (ihr sr w h2 (by omega))
    have n1 := l.need_two
    have n2 := r.need_two
    have HW : Hid ((Tr.node rows size l r).needW = if rows then max l.needW r.needW else l.needW + r.needW) := rfl
    have HH : Hid ((Tr.node rows size l r).needH = if rows then l.needH + r.needH else max l.needH r.needH) := rfl
    have x := box_cells hb
    unfold treeNd at x
    show Calls _ _ #[.pointer (some ⟨b, 0, none⟩)] _ _
    generalize (Tr.node rows size l r).needW = NW at *
    generalize (Tr.node rows size l r).needH = NH at *
    generalize l.needW = a1 at *
    generalize l.needH = a2 at *
    generalize r.needW = b1 at *
    generalize r.needH = b2 at *
    generalize sl.root = gl at *
    generalize sr.root = gr at *
    have q1 : a1 ≤ 2000 := by omega
    have q2 : a2 ≤ 2000 := by omega
    have q3 : b1 ≤ 2000 := by omega
    have q4 : b2 ≤ 2000 := by omega
    have q5 : 2 ≤ a1 := by omega
    have q6 : 2 ≤ a2 := by omega
    have q7 : 2 ≤ b1 := by omega
    have q8 : 2 ≤ b2 := by omega
    clear h hb h1 h2 hl ihl ihr n1 n2
    cases hr : rows
    all_goals
      rw [hr] at HW HH x
      clear hr
      go_enter Tryd.func58, Tryd.ntmps58
      go_wp2_with fail
      refine HL.out.mono ?_
      rintro e w1 ⟨rfl, rfl⟩
      go_wp2_with fail
      refine HR.out.mono ?_
      rintro e w1 ⟨rfl, rfl⟩
      go_wp2
      all_goals
        go_ret2
        exact ⟨ret_ints (by rw [HW.out]; simp <;> omega) (by rw [HH.out]; simp <;> omega), rfl⟩
def FitPostS (s : Sh) (t : Tr) (a b : Int) (w : World) (e : Ending) (w' : World) : Prop := e = .returned (.bool true) ∧ TreS w' s (t.fit a b) ∧ Only s.bs w w'
set_option maxHeartbeats 8000000 in
theorem l05Fit_any : ∀ (t : Tr) (s : Sh) (w : World) (a b : Int), TreS w s t → s.bs.Nodup → t.leaves ≤ 1000 → t.needW ≤ a → t.needH ≤ b → a ≤ 1000 → b ≤ 1000 →
    Calls Tryd.prog 53 #[.pointer (some ⟨s.root, 0, none⟩), .int .i64 a, .int .i64 b] w (FitPostS s t a b w) := by
  intro t
  induction t with
  | leaf p =>
    intro s w a b h hn hl ha hb ha2 hb2
    obtain ⟨c, rfl, hc⟩ := TreG.leaf h
    have x := box_cells hc
    have HH := Lib.hid h
    unfold treeLf at x
    simp only [Tr.needW, Tr.needH] at ha hb
    show Calls _ _ #[.pointer (some ⟨c, 0, none⟩), _, _] _ _
    clear h hc hl hn
    go_enter Tryd.func53, Tryd.ntmps53
    go_wp2
    all_goals try (exfalso; omega)
    all_goals
      go_ret
      exact ⟨ret_bool (by simp <;> omega), HH.out, Only.refl _ _⟩
  | node rows size l r ihl ihr =>
    intro s w a b h hn hl ha hb ha2 hb2
    obtain ⟨c, sl, sr, rfl, hc, h1, h2⟩ := TreG.node h
    obtain ⟨n1, n2, n3, n4, n5⟩ := Sh.nodup hn
    simp only [Tr.leaves] at hl
    have HNL := Lib.hid (l05Least_any l sl w h1 (by omega))
    have HNR := Lib.hid (l05Least_any r sr w h2 (by omega))
    have HL : Hid (∀ (wx : World) (a b : Int), TreS wx sl l → l.needW ≤ a → l.needH ≤ b → a ≤ 1000 → b ≤ 1000 → Calls Tryd.prog 53 #[.pointer (some ⟨sl.root, 0, none⟩), .int .i64 a, .int .i64 b] wx (FitPostS sl l a b wx)) := fun wx a b ht h1 h2 h3 h4 => ihl sl wx a b ht n3 (by omega) h1 h2 h3 h4
    have HR : Hid (∀ (wx : World) (a b : Int), TreS wx sr r → r.needW ≤ a → r.needH ≤ b → a ≤ 1000 → b ≤ 1000 → Calls Tryd.prog 53 #[.pointer (some ⟨sr.root, 0, none⟩), .int .i64 a, .int .i64 b] wx (FitPostS sr r a b wx)) := fun wx a b ht h1 h2 h3 h4 => ihr sr wx a b ht n4 (by omega) h1 h2 h3 h4
    have m1 := l.need_two
    have m2 := r.need_two
    have hcw := box_lt hc
    have x := box_cells hc
    have y := box_free hc
    unfold treeNd at x
    have HC := Lib.hid hc
    have H1 := Lib.hid h1
    have H2 := Lib.hid h2
    show Calls _ _ #[.pointer (some ⟨c, 0, none⟩), _, _] _ _
    have q1 : l.needW ≤ 2000 := by omega
    have q2 : l.needH ≤ 2000 := by omega
    have q3 : r.needW ≤ 2000 := by omega
    have q4 : r.needH ≤ 2000 := by omega
    have q5 : 2 ≤ l.needW := by omega
    have q6 : 2 ≤ l.needH := by omega
    have q7 : 2 ≤ r.needW := by omega
    have q8 : 2 ≤ r.needH := by omega
    clear h h1 h2 hl ihl ihr m1 m2 hn hc
    cases hr : rows
    · rw [hr] at ha hb x HC
      simp only [Tr.needW, Tr.needH, Bool.false_eq_true, if_false] at ha hb
      clear hr
      go_enter Tryd.func53, Tryd.ntmps53
      go_wp2_with fail
      refine HNL.out.mono ?_
      rintro e w1 ⟨rfl, rfl⟩
      go_wp2_with fail
      refine HNR.out.mono ?_
      rintro e w1 ⟨rfl, rfl⟩
      go_wp2_with fail
      all_goals try (exfalso; omega)
      all_goals
        obtain ⟨N, hN⟩ : ∃ N, sizeFit false size l r a b = N := ⟨_, rfl⟩
        have hN2 : l.needW ≤ N ∧ N ≤ a - r.needW := by rw [← hN]; simp [sizeFit]; omega
        first
        | rw [show l.needW = N from by rw [← hN]; simp [sizeFit]; omega]
        | rw [show size = N from by rw [← hN]; simp [sizeFit]; omega]
        | rw [show a - r.needW = N from by rw [← hN]; simp [sizeFit]; omega]
        have HN := Lib.hid hN
        have hcW := set_heap HC.out 1 (.int .i64 N)
        have HCW : Hid ((w.setCell ⟨c, 1, none⟩ (.int .i64 N)).heap[c]? = some (.cells (treeNd false N sl.root sr.root) 92 (0, 0))) := hcW
        have HOW : Hid (Only [c] w (w.setCell ⟨c, 1, none⟩ (.int .i64 N))) := (Only.refl _ w).set (by simp) 1 _
        generalize w.setCell ⟨c, 1, none⟩ (.int .i64 N) = W at *
        have T1 := TreG.only H1.out HOW.out (fun b hb hm => n1 (by simp at hm; subst hm; exact hb))
        have T2 := TreG.only H2.out HOW.out (fun b hb hm => n2 (by simp at hm; subst hm; exact hb))
        have HT1 := Lib.hid T1
        have HT2 := Lib.hid T2
        have xd : ∀ i, W.drew.cell? ⟨c, i, none⟩ = (treeNd false N sl.root sr.root)[i]? := box_cells HCW.out
        unfold treeNd at xd
        have hcw2 : c < W.heap.size := box_lt HCW.out
        have hcl : clampS N = N := by unfold clampS; omega
        have HCP := Lib.hid (l05Parts_any 0 false N 0 0 a b W.drew (by omega) (by omega) (by omega) (by omega))
        rw [hcl] at HCP
        clear x y hcW T1 T2 hN hcl
        go_wp2_with fail
        go_region_held3 (fun w' => ∀ i, w'.cell? ⟨c, i, none⟩ = (#[.int .i64 0, .int .i64 N, .bool false, .bool false, .pointer (some ⟨sl.root, 0, none⟩), .pointer (some ⟨sr.root, 0, none⟩)] : Array Value)[i]?) (first | with_reducible exact x2 | exact xd | fail)
          (first
          | (go_at_call 34; refine HCP.out.mono ?_; rintro e W2 ⟨rfl, hb2⟩; have x2 := cells_below (W := W.drew) xd hb2 (by show c < W.heap.size; omega))
          | fail)
        all_goals
          rename_i hh
          clear hh
          have hb2' : Below W.heap.size W W2 := ⟨hb2.os, hb2.tape, hb2.output, hb2.size, hb2.block⟩
          have HO2 : Hid (Only [] W W2) := Only.of_below hb2'
          have HT1' : Hid (TreS W2 sl l) := TreG.only HT1.out HO2.out (fun _ _ h => by simp at h)
          have HT2' : Hid (TreS W2 sr r) := TreG.only HT2.out HO2.out (fun _ _ h => by simp at h)
          have HC2 : Hid (W2.heap[c]? = some (.cells (treeNd false N sl.root sr.root) 92 (0, 0))) := (hb2'.block c hcw2).trans HCW.out
          clear hb2 hb2' HCP HT1 HT2
          go_wp2_with fail
          refine (HL.out W2 N b HT1'.out (by omega) (by omega) (by omega) (by omega)).mono ?_
          rintro e W3 ⟨rfl, hf1, ho1⟩
          have HO3 : Hid (Only (Sh.nd c sl sr).bs W W3) := (HO2.out.mono (fun x hx => by simp at hx)).trans (ho1.mono (fun x hx => by simp [Sh.bs, hx]))
          have HC3 : Hid (W3.heap[c]? = some (.cells (treeNd false N sl.root sr.root) 92 (0, 0))) := (ho1.block c (box_lt HC2.out) n1).trans HC2.out
          have HT3 : Hid (TreS W3 sr r) := TreG.only HT2'.out ho1 (fun b hb hm => n5 b hm hb)
          have HF1 := Lib.hid hf1
          have x3 := box_cells HC3.out
          unfold treeNd at x3
          clear x2 xd hf1 ho1 HC2 HT2' HT1' HO2
          go_wp2_with fail
          refine (HR.out W3 (a - N) b HT3.out (by omega) (by omega) (by omega) (by omega)).mono ?_
          rintro e W4 ⟨rfl, hf2, ho2⟩
          have HC4 : Hid (W4.heap[c]? = some (.cells (treeNd false N sl.root sr.root) 92 (0, 0))) := (ho2.block c (box_lt HC3.out) n2).trans HC3.out
          have HF1' : Hid (TreS W4 sl _) := TreG.only HF1.out ho2 (fun b hb hm => n5 b hb hm)
          have HOO : Hid (Only (Sh.nd c sl sr).bs w W4) := ((HOW.out.mono (fun x hx => by simp at hx; subst hx; simp [Sh.bs])).trans HO3.out).trans (ho2.mono (fun x hx => by simp [Sh.bs, hx]))
          have HT : Hid (TreS W4 (.nd c sl sr) ((Tr.node false size l r).fit a b)) := by
            show TreS _ _ _
            rw [← fit_eq (rows := false) (size := size) (l := l) (r := r) (w := a) (h := b) HN.out.symm]
            exact ⟨HC4.out, HF1'.out, hf2⟩
          clear x3 hf2 ho2
          go_wp2
          go_ret
          exact ⟨rfl, HT.out, HOO.out⟩
    · rw [hr] at ha hb x HC
      simp only [Tr.needW, Tr.needH, if_true] at ha hb
      clear hr
      go_enter Tryd.func53, Tryd.ntmps53
      go_wp2_with fail
      refine HNL.out.mono ?_
      rintro e w1 ⟨rfl, rfl⟩
      go_wp2_with fail
      refine HNR.out.mono ?_
      rintro e w1 ⟨rfl, rfl⟩
      go_wp2_with fail
      all_goals try (exfalso; omega)
      all_goals
        obtain ⟨N, hN⟩ : ∃ N, sizeFit true size l r a b = N := ⟨_, rfl⟩
        have hN2 : l.needH ≤ N ∧ N ≤ b - r.needH := by rw [← hN]; simp [sizeFit]; omega
        first
        | rw [show l.needH = N from by rw [← hN]; simp [sizeFit]; omega]
        | rw [show size = N from by rw [← hN]; simp [sizeFit]; omega]
        | rw [show b - r.needH = N from by rw [← hN]; simp [sizeFit]; omega]
        have HN := Lib.hid hN
        have hcW := set_heap HC.out 1 (.int .i64 N)
        have HCW : Hid ((w.setCell ⟨c, 1, none⟩ (.int .i64 N)).heap[c]? = some (.cells (treeNd true N sl.root sr.root) 92 (0, 0))) := hcW
        have HOW : Hid (Only [c] w (w.setCell ⟨c, 1, none⟩ (.int .i64 N))) := (Only.refl _ w).set (by simp) 1 _
        generalize w.setCell ⟨c, 1, none⟩ (.int .i64 N) = W at *
        have T1 := TreG.only H1.out HOW.out (fun b hb hm => n1 (by simp at hm; subst hm; exact hb))
        have T2 := TreG.only H2.out HOW.out (fun b hb hm => n2 (by simp at hm; subst hm; exact hb))
        have HT1 := Lib.hid T1
        have HT2 := Lib.hid T2
        have xd : ∀ i, W.drew.cell? ⟨c, i, none⟩ = (treeNd true N sl.root sr.root)[i]? := box_cells HCW.out
        unfold treeNd at xd
        have hcw2 : c < W.heap.size := box_lt HCW.out
        have hcl : clampS N = N := by unfold clampS; omega
        have HCP := Lib.hid (l05Parts_any 0 true N 0 0 a b W.drew (by omega) (by omega) (by omega) (by omega))
        rw [hcl] at HCP
        clear x y hcW T1 T2 hN hcl
        go_wp2_with fail
        go_region_held3 (fun w' => ∀ i, w'.cell? ⟨c, i, none⟩ = (#[.int .i64 0, .int .i64 N, .bool true, .bool false, .pointer (some ⟨sl.root, 0, none⟩), .pointer (some ⟨sr.root, 0, none⟩)] : Array Value)[i]?) (first | with_reducible exact x2 | exact xd | fail)
          (first
          | (go_at_call 34; refine HCP.out.mono ?_; rintro e W2 ⟨rfl, hb2⟩; have x2 := cells_below (W := W.drew) xd hb2 (by show c < W.heap.size; omega))
          | fail)
        all_goals
          rename_i hh
          clear hh
          have hb2' : Below W.heap.size W W2 := ⟨hb2.os, hb2.tape, hb2.output, hb2.size, hb2.block⟩
          have HO2 : Hid (Only [] W W2) := Only.of_below hb2'
          have HT1' : Hid (TreS W2 sl l) := TreG.only HT1.out HO2.out (fun _ _ h => by simp at h)
          have HT2' : Hid (TreS W2 sr r) := TreG.only HT2.out HO2.out (fun _ _ h => by simp at h)
          have HC2 : Hid (W2.heap[c]? = some (.cells (treeNd true N sl.root sr.root) 92 (0, 0))) := (hb2'.block c hcw2).trans HCW.out
          clear hb2 hb2' HCP HT1 HT2
          go_wp2_with fail
          refine (HL.out W2 a N HT1'.out (by omega) (by omega) (by omega) (by omega)).mono ?_
          rintro e W3 ⟨rfl, hf1, ho1⟩
          have HO3 : Hid (Only (Sh.nd c sl sr).bs W W3) := (HO2.out.mono (fun x hx => by simp at hx)).trans (ho1.mono (fun x hx => by simp [Sh.bs, hx]))
          have HC3 : Hid (W3.heap[c]? = some (.cells (treeNd true N sl.root sr.root) 92 (0, 0))) := (ho1.block c (box_lt HC2.out) n1).trans HC2.out
          have HT3 : Hid (TreS W3 sr r) := TreG.only HT2'.out ho1 (fun b hb hm => n5 b hm hb)
          have HF1 := Lib.hid hf1
          have x3 := box_cells HC3.out
          unfold treeNd at x3
          clear x2 xd hf1 ho1 HC2 HT2' HT1' HO2
          go_wp2_with fail
          refine (HR.out W3 a (b - N) HT3.out (by omega) (by omega) (by omega) (by omega)).mono ?_
          rintro e W4 ⟨rfl, hf2, ho2⟩
          have HC4 : Hid (W4.heap[c]? = some (.cells (treeNd true N sl.root sr.root) 92 (0, 0))) := (ho2.block c (box_lt HC3.out) n2).trans HC3.out
          have HF1' : Hid (TreS W4 sl _) := TreG.only HF1.out ho2 (fun b hb hm => n5 b hb hm)
          have HOO : Hid (Only (Sh.nd c sl sr).bs w W4) := ((HOW.out.mono (fun x hx => by simp at hx; subst hx; simp [Sh.bs])).trans HO3.out).trans (ho2.mono (fun x hx => by simp [Sh.bs, hx]))
          have HT : Hid (TreS W4 (.nd c sl sr) ((Tr.node true size l r).fit a b)) := by
            show TreS _ _ _
            rw [← fit_eq (rows := true) (size := size) (l := l) (r := r) (w := a) (h := b) HN.out.symm]
            exact ⟨HC4.out, HF1'.out, hf2⟩
          clear x3 hf2 ho2
          go_wp2
          go_ret
          exact ⟨rfl, HT.out, HOO.out⟩
end Go.Proofs.YtaacccooidehlaaDoor
