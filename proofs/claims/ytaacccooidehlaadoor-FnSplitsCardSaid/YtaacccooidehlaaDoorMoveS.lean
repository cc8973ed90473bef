/-
  Contracts of the reference's l05MoveSplit and MoveSplit. Conditions: the parts lie as the cells say.
-/
import Derived.Test.YtaacccooidehlaaDoorTreMove
namespace Go.Proofs.YtaacccooidehlaaDoor
open Go.ChangeShapes Go.WideShapes Go.ChangeAt Go.RowKit
set_option linter.unusedVariables false
set_option linter.unusedSimpArgs false
set_option maxRecDepth 100000
set_option maxHeartbeats 4000000 in
theorem l05MoveSplit_any (ao : Option Addr) (len cap : Nat) (ps : List PartV) (hl : ps.length = len) (hlc : len ≤ cap) (W H pn by_ : Int) (hby1 : -100 ≤ by_) (hby2 : by_ ≤ 100) (t : Tr) (y : Lay ps W H t) (n : Nat) (rl : List PartV) (cd : Int) (hQ : MoveQ W H pn by_ t rl cd) (hrl : rl.length = n) (w : World) (ha : At w ao (partsV ps)) :
    Calls Tryd.prog 30 #[.agg #[.slice ao len cap], .int .i64 W, .int .i64 H, .int .i64 pn, .int .i64 by_] w (LayAt n rl cd w) := by
  obtain ⟨l1, l2, l3, l4⟩ := y.len
  obtain ⟨V, hV⟩ : ∃ V, ((w.alloc (.cells #[.slice ao len cap] 26)).alloc (.cells #[.slice none 0 0] 26)) = V := ⟨_, rfl⟩
  have hB : Below w.heap.size w V := by rw [← hV]; exact ((Below.refl _ _).alloc (Nat.le_refl _) _).alloc (by simp) _
  have hz : V.heap.size = w.heap.size + 2 := by rw [← hV]; simp
  have m0 : V.heap[w.heap.size]? = some (.cells #[.slice ao len cap] 26 (0, 0)) := by rw [← hV, Below.heap_alloc _ _ _ (by simp)]; exact heap_alloc_new w _
  have m1 : V.heap[w.heap.size + 1]? = some (.cells #[.slice none 0 0] 26 (0, 0)) := by
    rw [← hV]
    have := heap_alloc_new (w.alloc (.cells #[.slice ao len cap] 26)) (.cells #[.slice none 0 0] 26)
    rw [World.size_alloc] at this; exact this
  have HFI := Lib.hid (l05Find_any ao len cap ps hl y pn V (ha.below hB (Nat.le_refl _)))
  have HB := Lib.hid hB
  have HM0 := Lib.hid m0
  have HM1 := Lib.hid m1
  have HA := Lib.hid ha
  have HZ := Lib.hid hz
  have HPL := Lib.hid hl
  have HY := Lib.hid y
  obtain ⟨t', hO, hrt⟩ := hQ
  clear hB m0 m1 ha hz y hl
  subst hV
  rcases hO with ⟨hp, rfl, rfl⟩ | ⟨hp, h1, rfl, rfl⟩ | ⟨hp, h1, rfl, rfl⟩
  · have HRP : Hid (rl = ps) := by show _ = _; rw [hrt, HY.out.eq]
    have HLN : Hid (len = n) := by show _ = _; rw [← hrl, HRP.out]; exact HPL.out.symm
    have hd : decide (pn ∈ t'.panes) = false := by simp [hp]
    clear hrl hrt hp
    rw [hd] at HFI
    clear hd
    go_enter Tryd.func30, Tryd.ntmps30
    go_wp2_with fail
    refine HFI.out.mono ?_
    generalize ((w.alloc (.cells #[.slice ao len cap] 26)).alloc (.cells #[.slice none 0 0] 26)) = V at *
    rintro e w1 ⟨rfl, hb1⟩
    have hzV := HZ.out
    have hz1 : V.heap.size ≤ w1.heap.size := hb1.size
    have X0 := Lib.hid (box_below HM0.out hb1 (by omega))
    have X1 := Lib.hid (box_below HM1.out hb1 (by omega))
    have B1 : Hid (Below w.heap.size w w1) := HB.out.trans (hb1.mono (by omega))
    have x0 := box_cells X0.out 0
    have x1 := box_cells X1.out 0
    have f1 := box_free X1.out 0
    simp only [List.getElem?_toArray, List.getElem?_cons_zero] at x0 x1
    clear hb1 HFI HB HM0 HM1
    go_wp2
    refine bodyPost_ret (v := .tuple #[.agg #[.slice ao len cap], .int .i64 5]) (by simp [results, Tryd.results30, x1, go_sem]) rfl ⟨ao, cap, by rw [HLN.out], by rw [← HLN.out]; exact hlc, ?_, ?_⟩
    · rw [HRP.out]; exact HA.out.below (B1.out.setCell (by dsimp only; omega) _) (Nat.le_refl _)
    · exact B1.out.setCell (by dsimp only; omega) _
  · have HRP : Hid (rl = ps) := by show _ = _; rw [hrt, HY.out.eq]
    have HLN : Hid (len = n) := by show _ = _; rw [← hrl, HRP.out]; exact HPL.out.symm
    have hd : decide (pn ∈ t'.panes) = true := by simp [hp]
    clear hrl hrt hp
    rw [hd] at HFI
    clear hd
    go_enter Tryd.func30, Tryd.ntmps30
    go_wp2_with fail
    refine HFI.out.mono ?_
    generalize ((w.alloc (.cells #[.slice ao len cap] 26)).alloc (.cells #[.slice none 0 0] 26)) = V at *
    rintro e w1 ⟨rfl, hb1⟩
    have hzV := HZ.out
    have hz1 : V.heap.size ≤ w1.heap.size := hb1.size
    have X0 := Lib.hid (box_below HM0.out hb1 (by omega))
    have X1 := Lib.hid (box_below HM1.out hb1 (by omega))
    have B1 : Hid (Below w.heap.size w w1) := HB.out.trans (hb1.mono (by omega))
    have x0 := box_cells X0.out 0
    have x1 := box_cells X1.out 0
    have f1 := box_free X1.out 0
    simp only [List.getElem?_toArray, List.getElem?_cons_zero] at x0 x1
    clear hb1 HFI HB HM0 HM1
    have HCN := Lib.hid (l05Count_any ao len cap ps HPL.out HY.out w1)
    go_wp2_with fail
    refine HCN.out.mono ?_
    rw [h1]
    rintro e w2 ⟨rfl, hb2⟩
    have hz2 : w1.heap.size ≤ w2.heap.size := hb2.size
    replace X0 := Lib.hid (box_below X0.out hb2 (by omega))
    replace X1 := Lib.hid (box_below X1.out hb2 (by omega))
    replace B1 : Hid (Below w.heap.size w w2) := B1.out.trans (hb2.mono (by omega))
    replace x0 := box_cells X0.out 0
    replace x1 := box_cells X1.out 0
    replace f1 := box_free X1.out 0
    simp only [List.getElem?_toArray, List.getElem?_cons_zero] at x0 x1
    clear hb2 HCN
    clear h1
    go_wp2
    refine bodyPost_ret (v := .tuple #[.agg #[.slice ao len cap], .int .i64 17]) (by simp [results, Tryd.results30, x1, go_sem]) rfl ⟨ao, cap, by rw [HLN.out], by rw [← HLN.out]; exact hlc, ?_, ?_⟩
    · rw [HRP.out]; exact HA.out.below (B1.out.setCell (by dsimp only; omega) _) (Nat.le_refl _)
    · exact B1.out.setCell (by dsimp only; omega) _
  · have hd : decide (pn ∈ t.panes) = true := by simp [hp]
    rw [hd] at HFI
    clear hd
    go_enter Tryd.func30, Tryd.ntmps30
    go_wp2_with fail
    refine HFI.out.mono ?_
    generalize ((w.alloc (.cells #[.slice ao len cap] 26)).alloc (.cells #[.slice none 0 0] 26)) = V at *
    rintro e w1 ⟨rfl, hb1⟩
    have hzV := HZ.out
    have hz1 : V.heap.size ≤ w1.heap.size := hb1.size
    have X0 := Lib.hid (box_below HM0.out hb1 (by omega))
    have X1 := Lib.hid (box_below HM1.out hb1 (by omega))
    have B1 : Hid (Below w.heap.size w w1) := HB.out.trans (hb1.mono (by omega))
    have x0 := box_cells X0.out 0
    have x1 := box_cells X1.out 0
    have f1 := box_free X1.out 0
    simp only [List.getElem?_toArray, List.getElem?_cons_zero] at x0 x1
    clear hb1 HFI HB HM0 HM1
    have HCN := Lib.hid (l05Count_any ao len cap ps HPL.out HY.out w1)
    go_wp2_with fail
    refine HCN.out.mono ?_
    rintro e w2 ⟨rfl, hb2⟩
    have hz2 : w1.heap.size ≤ w2.heap.size := hb2.size
    replace X0 := Lib.hid (box_below X0.out hb2 (by omega))
    replace X1 := Lib.hid (box_below X1.out hb2 (by omega))
    replace B1 : Hid (Below w.heap.size w w2) := B1.out.trans (hb2.mono (by omega))
    replace x0 := box_cells X0.out 0
    replace x1 := box_cells X1.out 0
    replace f1 := box_free X1.out 0
    simp only [List.getElem?_toArray, List.getElem?_cons_zero] at x0 x1
    clear hb2 HCN
    have hlv : ((t.leaves : Int) == 1) = false := by rw [beq_eq_false_iff_ne]; omega
    have HOF := Lib.hid (l05Of_any ao len cap ps HPL.out (by have := HPL.out; omega) t 0 w2 (HA.out.below B1.out (Nat.le_refl _)) HY.out.at0)
    have HP := Lib.hid hp
    have HH1 := Lib.hid h1
    have HRT := Lib.hid hrt
    have HRL := Lib.hid hrl
    have hw1 := HY.out.w2
    have hh1 := HY.out.h2
    clear hp h1 hrt hrl
    go_wp2_with fail
    refine HOF.out.mono ?_
    rintro e w3 ⟨s, rfl, ht, hnd, hge, hb3⟩
    have hz3 : w2.heap.size ≤ w3.heap.size := hb3.size
    replace X0 := Lib.hid (box_below X0.out hb3 (by omega))
    replace X1 := Lib.hid (box_below X1.out hb3 (by omega))
    replace B1 : Hid (Below w.heap.size w w3) := B1.out.trans (hb3.mono (by omega))
    have HOP := Lib.hid (l05Move_any pn by_ hby1 hby2 t s w3 ht hnd HY.out.nd HY.out.okP)
    have HND := Lib.hid hnd
    have HGE := Lib.hid hge
    clear hb3 HOF x0 x1 f1 ht hnd hge
    go_wp2_with fail
    refine HOP.out.mono ?_
    rintro e w4 ⟨rfl, ht4, ho4⟩
    have hnd4 := HND.out
    have hb4 : Below w2.heap.size w3 w4 := ho4.below HGE.out hz3
    have hz4 : w3.heap.size ≤ w4.heap.size := hb4.size
    replace X0 := Lib.hid (box_below X0.out hb4 (by omega))
    replace X1 := Lib.hid (box_below X1.out hb4 (by omega))
    replace B1 : Hid (Below w.heap.size w w4) := B1.out.trans (hb4.mono (by omega))
    have hff := move_fit_facts HY.out pn by_
    have HFT := Lib.hid (l05Fit_any (t.move pn by_) s w4 W H ht4 hnd4 (by omega) hff.2.1 hff.2.2.1 (by omega) (by omega))
    have HGE4 : Hid (∀ b ∈ (s).bs, w2.heap.size ≤ b) := HGE.out
    have hln : ((t.move pn by_).fit W H).len = n := by have := HRL.out; rw [HRT.out, Tr.length_parts] at this; exact this
    have hl11 : ((t.move pn by_).fit W H).len ≤ 11 := by have := (moveO_ok (by_ := by_) HY.out (.inr (.inr ⟨HP.out, HH1.out, rfl, rfl⟩))).len.1; exact this
    have HLN := Lib.hid hln
    clear hb4 ho4 ht4 hnd4 HOP HGE hff hln
    go_wp2_with fail
    refine HFT.out.mono ?_
    rintro e w5 ⟨rfl, ht5, ho5⟩
    have hb5 : Below w2.heap.size w4 w5 := ho5.below HGE4.out (by omega)
    have hz5 : w4.heap.size ≤ w5.heap.size := hb5.size
    replace X0 := Lib.hid (box_below X0.out hb5 (by omega))
    replace X1 := Lib.hid (box_below X1.out hb5 (by omega))
    replace B1 : Hid (Below w.heap.size w w5) := B1.out.trans (hb5.mono (by omega))
    have HLY := Lib.hid (l05Layout_any _ s w5 ht5 (by omega))
    clear hb5 ho5 ht5 HFT HGE4
    go_wp2_with fail
    refine HLY.out.mono ?_
    rintro e w6 ⟨a6, c6, rfl, hc6, hm6, hb6⟩
    rw [HLN.out] at hc6 ⊢
    replace X1 := Lib.hid (box_below X1.out hb6 (by omega))
    replace B1 : Hid (Below w.heap.size w w6) := B1.out.trans (hb6.mono (by omega))
    have HM : Hid (Mine w5.heap.size w6 a6 (partsV rl)) := by show Mine _ _ _ _; rw [HRT.out]; exact hm6
    have HC6 := Lib.hid hc6
    have x1 := box_cells X1.out 0
    have f1 := box_free X1.out 0
    simp only [List.getElem?_toArray, List.getElem?_cons_zero] at x1
    clear hb6 hm6 hc6 HLY X0
    go_wp2
    refine bodyPost_ret (v := .tuple #[.agg #[.slice a6 n c6], .int .i64 0]) (by simp [results, Tryd.results30, x1, go_sem]) rfl ⟨a6, c6, rfl, HC6.out, ?_, ?_⟩
    · exact (HM.out.set_oth (by dsimp only; omega) _).at
    · exact B1.out.setCell (by dsimp only; omega) _
end Go.Proofs.YtaacccooidehlaaDoor
