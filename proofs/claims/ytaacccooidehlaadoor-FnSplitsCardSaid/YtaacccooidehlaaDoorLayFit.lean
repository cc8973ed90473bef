/-
  Contract of the given program's fit: the tree is fitted in place, nothing else turns. Conditions: the tree lies so, each part a block of its own; it needs no more than the size.
-/
import Derived.Test.YtaacccooidehlaaDoorLayHeap
import Derived.BigRegion
import Derived.StillTailTactics
namespace Go.Proofs.YtaacccooidehlaaDoor
open Go.ChangeShapes Go.WideShapes Go.ChangeAt Go.RowKit
set_option linter.unusedVariables false
set_option linter.unusedSimpArgs false
set_option maxRecDepth 100000

/-- only those blocks (and new ones) have turned -/
structure Only (bs : List Nat) (w w' : World) : Prop where
  os : w'.os = w.os
  tape : w'.tape = w.tape
  output : w'.output = w.output
  size : w.heap.size ≤ w'.heap.size
  block : ∀ k, k < w.heap.size → k ∉ bs → w'.heap[k]? = w.heap[k]?
theorem Only.refl (bs : List Nat) (w : World) : Only bs w w := ⟨rfl, rfl, rfl, Nat.le_refl _, fun _ _ _ => rfl⟩
theorem Only.trans {bs : List Nat} {a b c : World} (h : Only bs a b) (k : Only bs b c) : Only bs a c :=
  ⟨k.os.trans h.os, k.tape.trans h.tape, k.output.trans h.output, Nat.le_trans h.size k.size, fun i hi hn => (k.block i (Nat.lt_of_lt_of_le hi h.size) hn).trans (h.block i hi hn)⟩
theorem Only.mono {bs cs : List Nat} {a b : World} (h : Only bs a b) (hs : ∀ x ∈ bs, x ∈ cs) : Only cs a b := ⟨h.os, h.tape, h.output, h.size, fun k hk hn => h.block k hk fun hb => hn (hs k hb)⟩
theorem Only.drew {bs : List Nat} {a b : World} (h : Only bs a b) : Only bs a b.drew := ⟨h.os, h.tape, h.output, h.size, h.block⟩
theorem Only.start {bs : List Nat} {a b : World} (h : Only bs a.drew b) : Only bs a b := ⟨h.os, h.tape, h.output, h.size, h.block⟩
theorem Only.set {bs : List Nat} {a b : World} (h : Only bs a b) {c : Nat} (hc : c ∈ bs) (i : Nat) (v : Value) : Only bs a (b.setCell ⟨c, i, none⟩ v) :=
  h.trans ⟨rfl, rfl, rfl, by simp [World.setCell], fun k _ hn => Below.heap_setCell _ _ _ _ fun e => hn (by rw [e]; exact hc)⟩
theorem Only.below {bs : List Nat} {B : Nat} {a b : World} (h : Only bs a b) (hb : ∀ x ∈ bs, B ≤ x) (hB : B ≤ a.heap.size) : Below B a b :=
  ⟨h.os, h.tape, h.output, h.size, fun k hk => h.block k (Nat.lt_of_lt_of_le hk hB) fun hn => absurd (hb k hn) (by omega)⟩
theorem Only.of_below {bs : List Nat} {a b : World} (h : Below a.heap.size a b) : Only bs a b := ⟨h.os, h.tape, h.output, h.size, fun k hk _ => h.block k hk⟩
theorem TreG.only {lfC : Int → Array Value} {ndC : Bool → Int → Nat → Nat → Array Value} {T : TypeId} {s : Sh} {t : Tr} {w w' : World} {bs : List Nat} (h : TreG lfC ndC T w s t) (ho : Only bs w w') (hn : ∀ b ∈ s.bs, b ∉ bs) : TreG lfC ndC T w' s t :=
  h.congr fun b hb => ho.block b (h.lt b hb) (hn b hb)
theorem TreG.drew {lfC : Int → Array Value} {ndC : Bool → Int → Nat → Nat → Array Value} {T : TypeId} {s : Sh} {t : Tr} {w : World} (h : TreG lfC ndC T w s t) : TreG lfC ndC T w.drew s t := h.congr fun _ _ => rfl
theorem Sh.nodup {b : Nat} {l r : Sh} (h : (Sh.nd b l r).bs.Nodup) : b ∉ l.bs ∧ b ∉ r.bs ∧ l.bs.Nodup ∧ r.bs.Nodup ∧ (∀ x ∈ l.bs, x ∉ r.bs) := by
  simp only [Sh.bs, List.nodup_cons, List.mem_append, not_or] at h
  obtain ⟨h1, h2⟩ := h
  obtain ⟨h3, h4, h5⟩ := List.nodup_append.1 h2
  exact ⟨h1.1, h1.2, h3, h4, fun x hx hy => h5 x hx x hy rfl⟩
theorem set_heap {w : World} {b : Nat} {cs : Array Value} {t : TypeId} {fr : Nat × Nat} (h : w.heap[b]? = some (.cells cs t fr)) (i : Nat) (v : Value) : (w.setCell ⟨b, i, none⟩ v).heap[b]? = some (.cells (cs.setIfInBounds i v) t fr) := by
  simp [World.setCell, Array.getElem?_modify, h]
theorem fit_eq {rows : Bool} {size N : Int} {l r : Tr} {w h : Int} (e : N = sizeFit rows size l r w h) : Tr.node rows N (l.fit (lwOf rows N w) (lhOf rows N h)) (r.fit (rwOf rows N w) (rhOf rows N h)) = (Tr.node rows size l r).fit w h := by subst e; rfl

def FitPost (s : Sh) (t : Tr) (a b : Int) (w : World) (e : Ending) (w' : World) : Prop := e = .returned (.tuple #[]) ∧ TreI w' s (t.fit a b) ∧ Only s.bs w w'
set_option maxHeartbeats 4000000 in
theorem fit_any : ∀ (t : Tr) (s : Sh) (w : World) (a b : Int), TreI w s t → s.bs.Nodup → t.okN → t.leaves ≤ 1000 → t.needW ≤ a → t.needH ≤ b → a ≤ 1000000 → b ≤ 1000000 →
    Calls Tryd.prog 49 #[.pointer (some ⟨s.root, 0, none⟩), .int .i64 a, .int .i64 b] w (FitPost s t a b w) := by
  intro t
  induction t with
  | leaf p =>
    intro s w a b h hn ho hl ha hb ha2 hb2
    obtain ⟨c, rfl, hc⟩ := TreG.leaf h
    have x := box_cells hc
    have hp := okN_ne ho
    have HH := Lib.hid h
    unfold areaLf at x
    show Calls _ _ #[.pointer (some ⟨c, 0, none⟩), _, _] _ _
    clear h hc ho hl hn
    go_enter Tryd.func49, Tryd.ntmps49
    go_wp2
    go_end0
    exact ⟨rfl, HH.out, Only.refl _ _⟩
  | node rows size l r ihl ihr =>
    intro s w a b h hn ho hl ha hb ha2 hb2
    obtain ⟨c, sl, sr, rfl, hc, h1, h2⟩ := TreG.node h
    obtain ⟨n1, n2, n3, n4, n5⟩ := Sh.nodup hn
    have ho' := Tr.okN_node.1 ho
    simp only [Tr.leaves] at hl
    have HNL := Lib.hid (need_any l sl w h1 ho'.1 (by omega))
    have HNR := Lib.hid (need_any r sr w h2 ho'.2 (by omega))
    have HL : Hid (∀ (wx : World) (a b : Int), TreI wx sl l → l.needW ≤ a → l.needH ≤ b → a ≤ 1000000 → b ≤ 1000000 → Calls Tryd.prog 49 #[.pointer (some ⟨sl.root, 0, none⟩), .int .i64 a, .int .i64 b] wx (FitPost sl l a b wx)) := fun wx a b ht h1 h2 h3 h4 => ihl sl wx a b ht n3 ho'.1 (by omega) h1 h2 h3 h4
    have HR : Hid (∀ (wx : World) (a b : Int), TreI wx sr r → r.needW ≤ a → r.needH ≤ b → a ≤ 1000000 → b ≤ 1000000 → Calls Tryd.prog 49 #[.pointer (some ⟨sr.root, 0, none⟩), .int .i64 a, .int .i64 b] wx (FitPost sr r a b wx)) := fun wx a b ht h1 h2 h3 h4 => ihr sr wx a b ht n4 ho'.2 (by omega) h1 h2 h3 h4
    have m1 := l.need_two
    have m2 := r.need_two
    have hcw := box_lt hc
    have x := box_cells hc
    have y := box_free hc
    unfold areaNd at x
    have HC := Lib.hid hc
    have H1 := Lib.hid h1
    have H2 := Lib.hid h2
    show Calls _ _ #[.pointer (some ⟨c, 0, none⟩), _, _] _ _
    have q1 : l.needW ≤ 2000 := by omega
    have q2 : l.needH ≤ 2000 := by omega
    have q3 : r.needW ≤ 2000 := by omega
    have q4 : r.needH ≤ 2000 := by omega
    have q5 : 2 ≤ l.needW := by omega
    have q6 : 2 ≤ l.needH := by omega
    have q7 : 2 ≤ r.needW := by omega
    have q8 : 2 ≤ r.needH := by omega
    clear h h1 h2 ho ho' hl ihl ihr m1 m2 hn hc
    cases hr : rows
    · rw [hr] at ha hb x HC
      simp only [Tr.needW, Tr.needH, Bool.false_eq_true, if_false] at ha hb
      clear hr
      go_enter Tryd.func49, Tryd.ntmps49
      go_wp2_with fail
      refine HNL.out.mono ?_
      rintro e w1 ⟨rfl, rfl⟩
      go_wp2_with fail
      refine HNR.out.mono ?_
      rintro e w1 ⟨rfl, rfl⟩
      go_wp2_with fail
      all_goals
        obtain ⟨N, hN⟩ : ∃ N, sizeFit false size l r a b = N := ⟨_, rfl⟩
        have hN2 : l.needW ≤ N ∧ N ≤ a - r.needW := by rw [← hN]; simp [sizeFit]; omega
        first
        | rw [show l.needW = N from by rw [← hN]; simp [sizeFit]; omega]
        | rw [show size = N from by rw [← hN]; simp [sizeFit]; omega]
        | rw [show a - r.needW = N from by rw [← hN]; simp [sizeFit]; omega]
        have HN := Lib.hid hN
        have hcW := set_heap HC.out 2 (.int .i64 N)
        have HCW : Hid ((w.setCell ⟨c, 2, none⟩ (.int .i64 N)).heap[c]? = some (.cells (areaNd false N sl.root sr.root) 77 (0, 0))) := hcW
        have HOW : Hid (Only [c] w (w.setCell ⟨c, 2, none⟩ (.int .i64 N))) := (Only.refl _ w).set (by simp) 2 _
        generalize w.setCell ⟨c, 2, none⟩ (.int .i64 N) = W at *
        have T1 := TreG.only H1.out HOW.out (fun b hb hm => n1 (by simp at hm; subst hm; exact hb))
        have T2 := TreG.only H2.out HOW.out (fun b hb hm => n2 (by simp at hm; subst hm; exact hb))
        have HT1 := Lib.hid T1
        have HT2 := Lib.hid T2
        have xx := box_cells HCW.out
        unfold areaNd at xx
        have x1 := xx 1
        have x2 := xx 2
        have x3 := xx 3
        have x4 := xx 4
        simp at x1 x2 x3 x4
        clear x y xx hcW T1 T2 hN
        go_wp2_with fail
        refine wp_region_still_tail 9 (by kernel_rfl) (by kernel_rfl) ?_
        simp only [List.take_succ_cons, List.take_zero, List.drop_succ_cons, List.drop_zero]
        repeat still_step
        refine wpStill_nil ?_
        change wpList _ _ _ _ _ W.drew
        go_wp2_with fail
        refine (HL.out W.drew N b (TreG.drew HT1.out) (by omega) (by omega) (by omega) (by omega)).mono ?_
        rintro e W2 ⟨rfl, hf1, ho1⟩
        have HO1 : Hid (Only (Sh.nd c sl sr).bs W W2) := ho1.start.mono (fun x hx => by simp [Sh.bs, hx])
        have HC2 : Hid (W2.heap[c]? = some (.cells (areaNd false N sl.root sr.root) 77 (0, 0))) := (ho1.start.block c (box_lt HCW.out) n1).trans HCW.out
        have HT2' : Hid (TreI W2 sr r) := TreG.only HT2.out ho1.start (fun b hb hm => n5 b hm hb)
        have HF1 := Lib.hid hf1
        have xx := box_cells HC2.out
        unfold areaNd at xx
        have y2 := xx 2
        have y4 := xx 4
        simp at y2 y4
        have hsub : IntKind.i64.wrap (a - N) = a - N := by rw [IntKind.wrap_i64]; omega
        clear x1 x2 x3 x4 xx hf1 ho1
        go_wp2_with fail
        refine wp_region_still_tail 11 (by kernel_rfl) (by kernel_rfl) ?_
        simp only [List.take_succ_cons, List.take_zero, List.drop_succ_cons, List.drop_zero]
        repeat still_step
        refine wpStill_nil ?_
        change wpList _ _ _ _ _ W2.drew
        clear hsub
        go_wp2_with fail
        refine (HR.out W2.drew (a - N) b (TreG.drew HT2'.out) (by omega) (by omega) (by omega) (by omega)).mono ?_
        rintro e W3 ⟨rfl, hf2, ho2⟩
        have HC3 : Hid (W3.heap[c]? = some (.cells (areaNd false N sl.root sr.root) 77 (0, 0))) := (ho2.start.block c (box_lt HC2.out) n2).trans HC2.out
        have HF1' : Hid (TreI W3 sl _) := TreG.only HF1.out ho2.start (fun b hb hm => n5 b hb hm)
        have HOO : Hid (Only (Sh.nd c sl sr).bs w W3) := ((HOW.out.mono (fun x hx => by simp at hx; subst hx; simp [Sh.bs])).trans HO1.out).trans (ho2.start.mono (fun x hx => by simp [Sh.bs, hx]))
        have HT : Hid (TreI W3 (.nd c sl sr) ((Tr.node false size l r).fit a b)) := by
          show TreI _ _ _
          rw [← fit_eq (rows := false) (size := size) (l := l) (r := r) (w := a) (h := b) HN.out.symm]
          exact ⟨HC3.out, HF1'.out, hf2⟩
        clear y2 y4 hf2 ho2
        go_wp2
        go_end0
        exact ⟨rfl, HT.out, HOO.out⟩
    · rw [hr] at ha hb x HC
      simp only [Tr.needW, Tr.needH, if_true] at ha hb
      clear hr
      go_enter Tryd.func49, Tryd.ntmps49
      go_wp2_with fail
      refine HNL.out.mono ?_
      rintro e w1 ⟨rfl, rfl⟩
      go_wp2_with fail
      refine HNR.out.mono ?_
      rintro e w1 ⟨rfl, rfl⟩
      go_wp2_with fail
      all_goals
        obtain ⟨N, hN⟩ : ∃ N, sizeFit true size l r a b = N := ⟨_, rfl⟩
        have hN2 : l.needH ≤ N ∧ N ≤ b - r.needH := by rw [← hN]; simp [sizeFit]; omega
        first
        | rw [show l.needH = N from by rw [← hN]; simp [sizeFit]; omega]
        | rw [show size = N from by rw [← hN]; simp [sizeFit]; omega]
        | rw [show b - r.needH = N from by rw [← hN]; simp [sizeFit]; omega]
        have HN := Lib.hid hN
        have hcW := set_heap HC.out 2 (.int .i64 N)
        have HCW : Hid ((w.setCell ⟨c, 2, none⟩ (.int .i64 N)).heap[c]? = some (.cells (areaNd true N sl.root sr.root) 77 (0, 0))) := hcW
        have HOW : Hid (Only [c] w (w.setCell ⟨c, 2, none⟩ (.int .i64 N))) := (Only.refl _ w).set (by simp) 2 _
        generalize w.setCell ⟨c, 2, none⟩ (.int .i64 N) = W at *
        have T1 := TreG.only H1.out HOW.out (fun b hb hm => n1 (by simp at hm; subst hm; exact hb))
        have T2 := TreG.only H2.out HOW.out (fun b hb hm => n2 (by simp at hm; subst hm; exact hb))
        have HT1 := Lib.hid T1
        have HT2 := Lib.hid T2
        have xx := box_cells HCW.out
        unfold areaNd at xx
        have x1 := xx 1
        have x2 := xx 2
        have x3 := xx 3
        have x4 := xx 4
        simp at x1 x2 x3 x4
        clear x y xx hcW T1 T2 hN
        go_wp2_with fail
        refine wp_region_still_tail 9 (by kernel_rfl) (by kernel_rfl) ?_
        simp only [List.take_succ_cons, List.take_zero, List.drop_succ_cons, List.drop_zero]
        repeat still_step
        refine wpStill_nil ?_
        change wpList _ _ _ _ _ W.drew
        go_wp2_with fail
        refine (HL.out W.drew a N (TreG.drew HT1.out) (by omega) (by omega) (by omega) (by omega)).mono ?_
        rintro e W2 ⟨rfl, hf1, ho1⟩
        have HO1 : Hid (Only (Sh.nd c sl sr).bs W W2) := ho1.start.mono (fun x hx => by simp [Sh.bs, hx])
        have HC2 : Hid (W2.heap[c]? = some (.cells (areaNd true N sl.root sr.root) 77 (0, 0))) := (ho1.start.block c (box_lt HCW.out) n1).trans HCW.out
        have HT2' : Hid (TreI W2 sr r) := TreG.only HT2.out ho1.start (fun b hb hm => n5 b hm hb)
        have HF1 := Lib.hid hf1
        have xx := box_cells HC2.out
        unfold areaNd at xx
        have y2 := xx 2
        have y4 := xx 4
        simp at y2 y4
        have hsub : IntKind.i64.wrap (b - N) = b - N := by rw [IntKind.wrap_i64]; omega
        clear x1 x2 x3 x4 xx hf1 ho1
        go_wp2_with fail
        refine wp_region_still_tail 11 (by kernel_rfl) (by kernel_rfl) ?_
        simp only [List.take_succ_cons, List.take_zero, List.drop_succ_cons, List.drop_zero]
        repeat still_step
        refine wpStill_nil ?_
        change wpList _ _ _ _ _ W2.drew
        clear hsub
        go_wp2_with fail
        refine (HR.out W2.drew a (b - N) (TreG.drew HT2'.out) (by omega) (by omega) (by omega) (by omega)).mono ?_
        rintro e W3 ⟨rfl, hf2, ho2⟩
        have HC3 : Hid (W3.heap[c]? = some (.cells (areaNd true N sl.root sr.root) 77 (0, 0))) := (ho2.start.block c (box_lt HC2.out) n2).trans HC2.out
        have HF1' : Hid (TreI W3 sl _) := TreG.only HF1.out ho2.start (fun b hb hm => n5 b hb hm)
        have HOO : Hid (Only (Sh.nd c sl sr).bs w W3) := ((HOW.out.mono (fun x hx => by simp at hx; subst hx; simp [Sh.bs])).trans HO1.out).trans (ho2.start.mono (fun x hx => by simp [Sh.bs, hx]))
        have HT : Hid (TreI W3 (.nd c sl sr) ((Tr.node true size l r).fit a b)) := by
          show TreI _ _ _
          rw [← fit_eq (rows := true) (size := size) (l := l) (r := r) (w := a) (h := b) HN.out.symm]
          exact ⟨HC3.out, HF1'.out, hf2⟩
        clear y2 y4 hf2 ho2
        go_wp2
        go_end0
        exact ⟨rfl, HT.out, HOO.out⟩
end Go.Proofs.YtaacccooidehlaaDoor
