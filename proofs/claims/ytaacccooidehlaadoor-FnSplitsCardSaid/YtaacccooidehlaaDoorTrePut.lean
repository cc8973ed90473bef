/-
  Contracts of the reference's l05Put, l05Layout and l05Own, and of l05Fit where a tree does not fit. Conditions: the tree lies so, bounds.
-/
import Derived.Test.YtaacccooidehlaaDoorTreFit
import Derived.Test.YtaacccooidehlaaDoorLayAdd
import Derived.Deep.RegionLaw
namespace Go.Proofs.YtaacccooidehlaaDoor
open Go.ChangeShapes Go.WideShapes Go.ChangeAt Go.RowKit
set_option linter.unusedVariables false
set_option linter.unusedSimpArgs false
set_option maxRecDepth 100000
theorem l05Fit_no (t : Tr) (s : Sh) (w : World) (a b : Int) (h : TreS w s t) (hl : t.leaves ≤ 1000) (hno : ¬ (t.needW ≤ a ∧ t.needH ≤ b)) :
    Calls Tryd.prog 53 #[.pointer (some ⟨s.root, 0, none⟩), .int .i64 a, .int .i64 b] w fun e w' => e = .returned (.bool false) ∧ w = w' := by
  cases t with
  | leaf p =>
    obtain ⟨c, rfl, hc⟩ := TreG.leaf h
    have x := box_cells hc
    unfold treeLf at x
    simp only [Tr.needW, Tr.needH] at hno
    show Calls _ _ #[.pointer (some ⟨c, 0, none⟩), _, _] _ _
    clear h hc hl
    go_enter Tryd.func53, Tryd.ntmps53
    go_wp2
    all_goals try (exfalso; omega)
    all_goals
      go_ret
      exact ⟨ret_bool (by simp <;> omega), rfl⟩
  | node rows size l r =>
    obtain ⟨c, sl, sr, rfl, hc, h1, h2⟩ := TreG.node h
    simp only [Tr.leaves] at hl
    have HNL := Lib.hid (l05Least_any l sl w h1 (by omega))
    have HNR := Lib.hid (l05Least_any r sr w h2 (by omega))
    have m1 := l.need_two
    have m2 := r.need_two
    have x := box_cells hc
    unfold treeNd at x
    show Calls _ _ #[.pointer (some ⟨c, 0, none⟩), _, _] _ _
    have q1 : l.needW ≤ 2000 := by omega
    have q2 : l.needH ≤ 2000 := by omega
    have q3 : r.needW ≤ 2000 := by omega
    have q4 : r.needH ≤ 2000 := by omega
    have q5 : 2 ≤ l.needW := by omega
    have q6 : 2 ≤ l.needH := by omega
    have q7 : 2 ≤ r.needW := by omega
    have q8 : 2 ≤ r.needH := by omega
    clear h h1 h2 hl m1 m2 hc
    cases hr : rows
    all_goals
      rw [hr] at hno x
      simp only [Tr.needW, Tr.needH, Bool.false_eq_true, if_false, if_true] at hno
      clear hr
      generalize l.needW = a1 at *
      generalize l.needH = a2 at *
      generalize r.needW = b1 at *
      generalize r.needH = b2 at *
      go_enter Tryd.func53, Tryd.ntmps53
      go_wp2_with fail
      refine HNL.out.mono ?_
      rintro e w1 ⟨rfl, rfl⟩
      go_wp2_with fail
      refine HNR.out.mono ?_
      rintro e w1 ⟨rfl, rfl⟩
      go_wp2_with fail
      all_goals try (exfalso; omega)
      all_goals
        go_ret
        exact ⟨rfl, rfl⟩
/-- an owned row of parts: cells and stores -/
theorem row_cells {C g cap m : Nat} {qs : List PartV} {w : World} (h : w.ownsRow C 54 5 (.slice (some ⟨g, 0, none⟩) m cap) m (partsV qs)) (hl : qs.length = m) {k : Nat} {q : PartV} (hk : qs[k]? = some q) :
    w.cell? ⟨g, k * 5 + 4, none⟩ = some (.int .i64 q.right) ∧ (∀ i, w.frozen? ⟨g, i, none⟩ = false) ∧ k < m ∧ C ≤ g := by
  have hkl : k < qs.length := (List.getElem?_eq_some_iff.1 hk).1
  refine ⟨?_, h.frozenAt, by omega, (h.lt g rfl).1⟩
  rw [h.cellAt _ (by omega)]; exact partsV_get qs k q hk 4 (by decide)
theorem row_right {C g cap m : Nat} {qs : List PartV} {w : World} (h : w.ownsRow C 54 5 (.slice (some ⟨g, 0, none⟩) m cap) m (partsV qs)) {k : Nat} {p0 s0 l0 r0 : Int} {w0 : Bool} (hk : qs[k]? = some ⟨p0, w0, s0, l0, r0⟩) (R : Int) :
    (w.setCell ⟨g, k * 5 + 4, none⟩ (.int .i64 R)).ownsRow C 54 5 (.slice (some ⟨g, 0, none⟩) m cap) m (partsV (qs.set k ⟨p0, w0, s0, l0, R⟩)) ∧ Below C w (w.setCell ⟨g, k * 5 + 4, none⟩ (.int .i64 R)) := by
  refine ⟨?_, (Below.refl C w).setCell (p := ⟨g, k * 5 + 4, none⟩) (h.lt g rfl).1 _⟩
  rw [← partsV_right qs k _ R hk]; exact (h.stored (k * 5 + 4) _).1
def PutPost (t : Tr) (C n : Nat) (ps : List PartV) (w : World) (e : Ending) (w' : World) : Prop :=
  ∃ g cap, e = .returned (.slice (some ⟨g, 0, none⟩) (n + t.len) cap) ∧ w'.ownsRow C 54 5 (.slice (some ⟨g, 0, none⟩) (n + t.len) cap) (n + t.len) (partsV (ps ++ t.parts n)) ∧ Below C w w'
set_option maxHeartbeats 8000000 in
theorem l05Put_any : ∀ (t : Tr) (s : Sh) (w : World) (C : Nat) (ao : Option Addr) (cap n : Nat) (ps : List PartV), TreS w s t → (∀ b ∈ s.bs, b < C) → C ≤ w.heap.size → w.ownsRow C 54 5 (.slice ao n cap) n (partsV ps) → ps.length = n → n + t.len ≤ 1000 →
    Calls Tryd.prog 55 #[.pointer (some ⟨s.root, 0, none⟩), .slice ao n cap] w (PutPost t C n ps w) := by
  intro t
  induction t with
  | leaf p =>
    intro s w C ao cap n ps h hs hC hown hlen hn
    obtain ⟨i0, hi, iz0, iz1, iz2⟩ := info_parts Tryd.info_part
    obtain ⟨c, rfl, hc⟩ := TreG.leaf h
    have x := box_cells hc
    unfold treeLf at x
    simp only [Tr.len] at hn
    have HOWN := Lib.hid hown
    show Calls _ _ #[.pointer (some ⟨c, 0, none⟩), _] _ _
    clear h hc hown
    go_enter Tryd.func55, Tryd.ntmps55
    go_wp2_with (at_builtin; (refine wpList_append_lies _ rfl (.tmp 12) (.tmp 18) 24 rfl C 54 i0 (.agg #[.int .i64 0, .bool false, .int .i64 0, .int .i64 0, .int .i64 0]) 5 40 Tryd.underlying24 hi iz0 iz1 iz2 rfl (by decide) (.slice ao n cap) n (partsV ps) rfl (HOWN.out.alloc _) ⟨w.heap.size, 0, none⟩ 1 1 [.int .i64 p, .bool false, .int .i64 0, .int .i64 (-1), .int .i64 (-1)] rfl rfl (fun j u hu => World.news_of_block (heap_alloc_new _ _) j u hu) (by intro u hu; simp at hu; rcases hu with rfl | rfl | rfl | rfl | rfl <;> rfl) (by decide) (by unfold maxLen; omega) (by omega) (by simp; omega) _ rfl ?_; intro g2 cap2 w2 hown2 hgrow2 hlie2 hlt2))
    go_ret
    refine ⟨g2, cap2, rfl, ?_, ((Below.refl C w).alloc hC _).grown hgrow2 (by simp; omega) (fun k hk => (HOWN.out.lt k hk).1)⟩
    rw [show partsV (ps ++ (Tr.leaf p).parts n) = partsV ps ++ [.int .i64 p, .bool false, .int .i64 0, .int .i64 (-1), .int .i64 (-1)] from by rw [partsV_append]; rfl]
    exact hown2
  | node rows size l r ihl ihr =>
    intro s w C ao cap n ps h hs hC hown hlen hn
    obtain ⟨i0, hi, iz0, iz1, iz2⟩ := info_parts Tryd.info_part
    obtain ⟨c, sl, sr, rfl, hc, h1, h2⟩ := TreG.node h
    have hcC : c < C := hs c (by simp [Sh.bs])
    simp only [Tr.len] at hn
    have nl := l.len_pos
    have nr := r.len_pos
    have x0 := box_cells hc 1
    have x1 := box_cells hc 2
    have x3 := box_cells hc 3
    unfold treeNd at x0 x1 x3
    simp only [List.getElem?_toArray, List.getElem?_cons_zero, List.getElem?_cons_succ] at x0 x1 x3
    have HOWN := Lib.hid hown
    have HC := Lib.hid hc
    have HPL := Lib.hid hlen
    have HSL : Hid (∀ b ∈ sl.bs, b < C) := fun b hb => hs b (by simp [Sh.bs, hb])
    have HSR : Hid (∀ b ∈ sr.bs, b < C) := fun b hb => hs b (by simp [Sh.bs, hb])
    have HL : Hid (∀ (W : World) (ao : Option Addr) (cap n' : Nat) (qs : List PartV), Below C w W → W.ownsRow C 54 5 (.slice ao n' cap) n' (partsV qs) → qs.length = n' → n' + l.len ≤ 1000 → Calls Tryd.prog 55 #[.pointer (some ⟨sl.root, 0, none⟩), .slice ao n' cap] W (PutPost l C n' qs W)) := fun W ao cap n' qs hb ho hq hq2 => ihl sl W C ao cap n' qs (h1.congr fun b hb2 => hb.block b (HSL.out b hb2)) HSL.out (Nat.le_trans hC hb.size) ho hq hq2
    have HR : Hid (∀ (W : World) (ao : Option Addr) (cap n' : Nat) (qs : List PartV), Below C w W → W.ownsRow C 54 5 (.slice ao n' cap) n' (partsV qs) → qs.length = n' → n' + r.len ≤ 1000 → Calls Tryd.prog 55 #[.pointer (some ⟨sr.root, 0, none⟩), .slice ao n' cap] W (PutPost r C n' qs W)) := fun W ao cap n' qs hb ho hq hq2 => ihr sr W C ao cap n' qs (h2.congr fun b hb2 => hb.block b (HSR.out b hb2)) HSR.out (Nat.le_trans hC hb.size) ho hq hq2
    have hn1 : n + 1 ≤ 1000 := by omega
    have hk1 : IntKind.i64.wrap ((n : Int) + 1) = (n : Int) + 1 := by rw [IntKind.wrap_i64]; omega
    show Calls _ _ #[.pointer (some ⟨c, 0, none⟩), _] _ _
    clear h hc hown hs h1 h2 ihl ihr hlen
    go_enter Tryd.func55, Tryd.ntmps55
    go_wp2_with fail
    clear x3
    go_region_law (refine step_append_lies _ rfl (.tmp 20) (.tmp 32) 24 rfl C 54 i0 (.agg #[.int .i64 0, .bool false, .int .i64 0, .int .i64 0, .int .i64 0]) 5 40 Tryd.underlying24 hi iz0 iz1 iz2 rfl (by decide) (.slice ao n cap) n (partsV ps) (by simp [Act.eval]) (HOWN.out.drew.alloc _) ⟨w.heap.size, 0, none⟩ 1 1 [.int .i64 0, .bool rows, .int .i64 size, .int .i64 ((n : Int) + 1), .int .i64 0] (by simp [Act.eval]) rfl (fun j u hu => World.news_of_block (heap_alloc_new _ _) j u hu) (by intro u hu; simp at hu; rcases hu with rfl | rfl | rfl | rfl | rfl <;> rfl) (by decide) (by unfold maxLen; omega) (by omega) (by simp; omega) _ rfl ?_; intro g2 cap2 w2 hown2 hgrow2 hlie2 hlt2)
    all_goals
      have HB2 : Hid (Below C w w2) := (((Below.refl C w).alloc hC _).drew).grown hgrow2 (by show C ≤ (w.alloc _).heap.size; simp; omega) (fun k hk => (HOWN.out.lt k hk).1)
      have HO2 : Hid (w2.ownsRow C 54 5 (.slice (some ⟨g2, 0, none⟩) (n + 1) cap2) (n + 1) (partsV (ps ++ [⟨0, rows, size, (n : Int) + 1, 0⟩]))) := by
        show World.ownsRow _ _ _ _ _ _ _
        rw [partsV_append]
        exact hown2
      have z4 := box_cells ((HB2.out.block c hcC).trans HC.out) 4
      unfold treeNd at z4
      simp only [List.getElem?_toArray, List.getElem?_cons_zero, List.getElem?_cons_succ] at z4
      have hP := Lib.hid (HL.out w2 (some ⟨g2, 0, none⟩) cap2 (n + 1) (ps ++ [⟨0, rows, size, (n : Int) + 1, 0⟩]) HB2.out HO2.out (by simp [HPL.out]) (by omega))
      clear hown2 hgrow2 hlie2 hlt2 x0 x1 hk1 HO2
      go_wp2_with fail
      refine hP.out.mono ?_
      rintro e w3 ⟨g3, cap3, rfl, hown3, hb3⟩
      obtain ⟨m, hm⟩ : ∃ m, n + 1 + l.len = m := ⟨_, rfl⟩
      rw [hm] at hown3 ⊢
      have hk3 : (ps ++ [(⟨0, rows, size, (n : Int) + 1, 0⟩ : PartV)] ++ l.parts (n + 1))[n]? = some (⟨0, rows, size, (n : Int) + 1, 0⟩ : PartV) := by
        have := HPL.out
        rw [List.append_assoc, List.getElem?_append_right (by omega), this, Nat.sub_self]; rfl
      have hset3 : (ps ++ [(⟨0, rows, size, (n : Int) + 1, 0⟩ : PartV)] ++ l.parts (n + 1)).set n (⟨0, rows, size, (n : Int) + 1, (m : Int)⟩ : PartV) = ps ++ (⟨0, rows, size, ((n + 1 : Nat) : Int), ((n + 1 + l.len : Nat) : Int)⟩ :: l.parts (n + 1)) := by
        have := HPL.out
        rw [List.append_assoc, List.set_append_right _ _ (by omega), this, Nat.sub_self, hm]; rfl
      have hl3 : (ps ++ [(⟨0, rows, size, (n : Int) + 1, 0⟩ : PartV)] ++ l.parts (n + 1)).length = m := by simp [HPL.out, Tr.length_parts]; omega
      obtain ⟨c4, f4, k4, g4⟩ := row_cells hown3 hl3 hk3
      obtain ⟨ho3, hb3'⟩ := row_right hown3 hk3 (m : Int)
      rw [hset3] at ho3
      have HB3 : Hid (Below C w (w3.setCell ⟨g3, n * 5 + 4, none⟩ (.int .i64 (m : Int)))) := (HB2.out.trans hb3).trans hb3'
      have y5 := box_cells ((HB3.out.block c hcC).trans HC.out) 5
      unfold treeNd at y5
      simp only [List.getElem?_toArray, List.getElem?_cons_zero, List.getElem?_cons_succ] at y5
      have f5 := f4 (n * 5 + 4)
      have hQ := Lib.hid (HR.out _ (some ⟨g3, 0, none⟩) cap3 m _ HB3.out ho3 (by rw [← hset3]; simpa using hl3) (by omega))
      have i1 : (0 : Int) ≤ (n : Int) := by omega
      have i2 : (n : Int) < (m : Int) := by omega
      have hm2 : m + r.len ≤ 1000 := by omega
      have HE : Hid (∀ (e : Ending) (W : World), PutPost r C m (ps ++ (⟨0, rows, size, ((n + 1 : Nat) : Int), ((n + 1 + l.len : Nat) : Int)⟩ :: l.parts (n + 1))) (w3.setCell ⟨g3, n * 5 + 4, none⟩ (.int .i64 (m : Int))) e W → PutPost (.node rows size l r) C n ps w e W) := by
        rintro e W ⟨g, cp, rfl, ho, hb⟩
        have e1 : m + r.len = n + (Tr.node rows size l r).len := by simp only [Tr.len]; omega
        have e2 : ps ++ (⟨0, rows, size, ((n + 1 : Nat) : Int), ((n + 1 + l.len : Nat) : Int)⟩ :: l.parts (n + 1)) ++ r.parts m = ps ++ (Tr.node rows size l r).parts n := by rw [← hm]; simp [Tr.parts]
        rw [e1, e2] at ho
        rw [e1]
        exact ⟨g, cp, rfl, ho, HB3.out.trans hb⟩
      clear hown3 hb3 hm hk3 hset3 hl3 ho3 hb3' f4 z4 hP
      go_wp2_with fail
      refine hQ.out.mono ?_
      rintro e w4 hq
      have HQ := Lib.hid (HE.out e w4 hq)
      obtain ⟨g, cp, rfl, _⟩ := hq
      clear y5 c4 f5 hQ HE
      go_wp2
      go_ret
      exact HQ.out
end Go.Proofs.YtaacccooidehlaaDoor
