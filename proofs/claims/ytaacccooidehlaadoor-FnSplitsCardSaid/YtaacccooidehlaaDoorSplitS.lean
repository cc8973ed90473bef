/-
  Contracts of the reference's l05SplitArea and SplitArea. Conditions: the parts lie as the cells say.
-/
import Derived.Test.YtaacccooidehlaaDoorTreSplit
import Derived.Test.YtaacccooidehlaaDoorSplitI
namespace Go.Proofs.YtaacccooidehlaaDoor
open Go.ChangeShapes Go.WideShapes Go.ChangeAt Go.RowKit
set_option linter.unusedVariables false
set_option linter.unusedSimpArgs false
set_option maxRecDepth 100000
set_option maxHeartbeats 4000000 in
theorem l05SplitArea_any (ao : Option Addr) (len cap : Nat) (ps : List PartV) (hl : ps.length = len) (hlc : len ≤ cap) (W H pn fr : Int) (rws : Bool) (t : Tr) (y : Lay ps W H t) (n : Nat) (rl : List PartV) (cd : Int) (hQ : SplitQ W H pn fr rws t rl cd) (hrl : rl.length = n) (w : World) (ha : At w ao (partsV ps)) :
    Calls Tryd.prog 22 #[.agg #[.slice ao len cap], .int .i64 W, .int .i64 H, .int .i64 pn, .int .i64 fr, .bool rws] w (LayAt n rl cd w) := by
  obtain ⟨l1, l2, l3, l4⟩ := y.len
  obtain ⟨V, hV⟩ : ∃ V, ((w.alloc (.cells #[.slice ao len cap] 26)).alloc (.cells #[.slice none 0 0] 26)) = V := ⟨_, rfl⟩
  have hB : Below w.heap.size w V := by rw [← hV]; exact ((Below.refl _ _).alloc (Nat.le_refl _) _).alloc (by simp) _
  have hz : V.heap.size = w.heap.size + 2 := by rw [← hV]; simp
  have m0 : V.heap[w.heap.size]? = some (.cells #[.slice ao len cap] 26 (0, 0)) := by rw [← hV, Below.heap_alloc _ _ _ (by simp)]; exact heap_alloc_new w _
  have m1 : V.heap[w.heap.size + 1]? = some (.cells #[.slice none 0 0] 26 (0, 0)) := by
    rw [← hV]
    have := heap_alloc_new (w.alloc (.cells #[.slice ao len cap] 26)) (.cells #[.slice none 0 0] 26)
    rw [World.size_alloc] at this; exact this
  have HFI := Lib.hid (l05Find_any ao len cap ps hl y pn V (ha.below hB (Nat.le_refl _)))
  have HB := Lib.hid hB
  have HM0 := Lib.hid m0
  have HM1 := Lib.hid m1
  have HA := Lib.hid ha
  have HZ := Lib.hid hz
  have HPL := Lib.hid hl
  have HY := Lib.hid y
  obtain ⟨hf1, hf2, t', hO, hrt⟩ := hQ
  have HRT := Lib.hid hrt
  have HRL := Lib.hid hrl
  have hw1 := y.w2
  have hh1 := y.h2
  clear hB m0 m1 ha hz y hl hrt hrl
  subst hV
  have keep : t' = t → (Hid (rl = ps) ∧ Hid (len = n)) := fun e => by
    have h1 : rl = ps := by rw [HRT.out, e, HY.out.eq]
    exact ⟨h1, by show _ = _; rw [← HRL.out, h1]; exact HPL.out.symm⟩
  have HKP := Lib.hid keep
  clear keep
  by_cases hp : pn ∈ t.panes
  rotate_left
  · obtain ⟨rfl, rfl⟩ : t' = t ∧ cd = 5 := by
      rcases hO with ⟨_, h1, h2⟩ | h | h | h | h
      · exact ⟨h1, h2⟩
      all_goals exact absurd h.1 hp
    obtain ⟨HRP, HLN⟩ := HKP.out rfl
    rw [decide_eq_false hp] at HFI
    clear hp hO
    go_enter Tryd.func22, Tryd.ntmps22
    go_wp2_with fail
    refine HFI.out.mono ?_
    generalize ((w.alloc (.cells #[.slice ao len cap] 26)).alloc (.cells #[.slice none 0 0] 26)) = V at *
    rintro e w1 ⟨rfl, hb1⟩
    have hzV := HZ.out
    have X1 := Lib.hid (box_below HM1.out hb1 (by omega))
    have X0 := Lib.hid (box_below HM0.out hb1 (by omega))
    have B1 : Hid (Below w.heap.size w w1) := HB.out.trans (hb1.mono (by omega))
    have x0 := box_cells X0.out 0
    have x1 := box_cells X1.out 0
    have f1 := box_free X1.out 0
    simp only [List.getElem?_toArray, List.getElem?_cons_zero] at x0 x1
    clear hb1 HFI HB HM0 HM1
    go_wp2
    refine bodyPost_ret (v := .tuple #[.agg #[.slice ao len cap], .int .i64 5]) (by simp [results, Tryd.results22, x1, go_sem]) rfl ⟨ao, cap, by rw [HLN.out], by rw [← HLN.out]; exact hlc, ?_, ?_⟩
    · rw [HRP.out]; exact HA.out.below (B1.out.setCell (by dsimp only; omega) _) (Nat.le_refl _)
    · exact B1.out.setCell (by dsimp only; omega) _
  rw [decide_eq_true hp] at HFI
  have HP := Lib.hid hp
  go_enter Tryd.func22, Tryd.ntmps22
  go_wp2_with fail
  refine HFI.out.mono ?_
  generalize ((w.alloc (.cells #[.slice ao len cap] 26)).alloc (.cells #[.slice none 0 0] 26)) = V at *
  rintro e w1 ⟨rfl, hb1⟩
  have hzV := HZ.out
  have hz1 : V.heap.size ≤ w1.heap.size := hb1.size
  have X1 := Lib.hid (box_below HM1.out hb1 (by omega))
  have X0 := Lib.hid (box_below HM0.out hb1 (by omega))
  have B1 : Hid (Below w.heap.size w w1) := HB.out.trans (hb1.mono (by omega))
  have x0 := box_cells X0.out 0
  have x1 := box_cells X1.out 0
  have f1 := box_free X1.out 0
  simp only [List.getElem?_toArray, List.getElem?_cons_zero] at x0 x1
  clear hb1 HFI HB HM0 HM1
  have HFR := Lib.hid (l05Find_any ao len cap ps HPL.out HY.out fr w1 (HA.out.below B1.out (Nat.le_refl _)))
  by_cases hf : fr ∈ t.panes
  · obtain ⟨rfl, rfl⟩ : t' = t ∧ cd = 9 := by
      rcases hO with h | ⟨_, _, h1, h2⟩ | h | h | h
      · exact absurd hp h.1
      · exact ⟨h1, h2⟩
      all_goals exact absurd hf h.2.1
    obtain ⟨HRP, HLN⟩ := HKP.out rfl
    rw [decide_eq_true hf] at HFR
    clear hp hf hO
    go_wp2_with fail
    refine HFR.out.mono ?_
    rintro e w2 ⟨rfl, hb⟩
    have hz2 : w1.heap.size ≤ w2.heap.size := hb.size
    replace X0 := Lib.hid (box_below X0.out hb (by omega))
    replace X1 := Lib.hid (box_below X1.out hb (by omega))
    replace B1 : Hid (Below w.heap.size w w2) := B1.out.trans (hb.mono (by omega))
    replace x0 := box_cells X0.out 0
    replace x1 := box_cells X1.out 0
    replace f1 := box_free X1.out 0
    simp only [List.getElem?_toArray, List.getElem?_cons_zero] at x0 x1
    clear hb HFR
    go_wp2
    refine bodyPost_ret (v := .tuple #[.agg #[.slice ao len cap], .int .i64 9]) (by simp [results, Tryd.results22, x1, go_sem]) rfl ⟨ao, cap, by rw [HLN.out], by rw [← HLN.out]; exact hlc, ?_, ?_⟩
    · rw [HRP.out]; exact HA.out.below (B1.out.setCell (by dsimp only; omega) _) (Nat.le_refl _)
    · exact B1.out.setCell (by dsimp only; omega) _
  rw [decide_eq_false hf] at HFR
  have HF := Lib.hid hf
  go_wp2_with fail
  refine HFR.out.mono ?_
  rintro e w2 ⟨rfl, hb⟩
  have hz2 : w1.heap.size ≤ w2.heap.size := hb.size
  replace X0 := Lib.hid (box_below X0.out hb (by omega))
  replace X1 := Lib.hid (box_below X1.out hb (by omega))
  replace B1 : Hid (Below w.heap.size w w2) := B1.out.trans (hb.mono (by omega))
  replace x0 := box_cells X0.out 0
  replace x1 := box_cells X1.out 0
  replace f1 := box_free X1.out 0
  simp only [List.getElem?_toArray, List.getElem?_cons_zero] at x0 x1
  clear hb HFR
  have HCN := Lib.hid (l05Count_any ao len cap ps HPL.out HY.out w2)
  by_cases h6 : t.leaves = 6
  · obtain ⟨rfl, rfl⟩ : t' = t ∧ cd = 7 := by
      rcases hO with h | h | ⟨_, _, _, h1, h2⟩ | h | h
      · exact absurd hp h.1
      · exact absurd h.2.1 hf
      · exact ⟨h1, h2⟩
      all_goals exact absurd h6 h.2.2.1
    obtain ⟨HRP, HLN⟩ := HKP.out rfl
    rw [h6] at HCN
    clear hp hf hO h6
    go_wp2_with fail
    refine HCN.out.mono ?_
    rintro e w3 ⟨rfl, hb⟩
    have hz3 : w2.heap.size ≤ w3.heap.size := hb.size
    replace X0 := Lib.hid (box_below X0.out hb (by omega))
    replace X1 := Lib.hid (box_below X1.out hb (by omega))
    replace B1 : Hid (Below w.heap.size w w3) := B1.out.trans (hb.mono (by omega))
    replace x0 := box_cells X0.out 0
    replace x1 := box_cells X1.out 0
    replace f1 := box_free X1.out 0
    simp only [List.getElem?_toArray, List.getElem?_cons_zero] at x0 x1
    clear hb HCN
    go_wp2
    refine bodyPost_ret (v := .tuple #[.agg #[.slice ao len cap], .int .i64 7]) (by simp [results, Tryd.results22, x1, go_sem]) rfl ⟨ao, cap, by rw [HLN.out], by rw [← HLN.out]; exact hlc, ?_, ?_⟩
    · rw [HRP.out]; exact HA.out.below (B1.out.setCell (by dsimp only; omega) _) (Nat.le_refl _)
    · exact B1.out.setCell (by dsimp only; omega) _
  have hlv : ((t.leaves : Int) == 6) = false := by rw [beq_eq_false_iff_ne]; omega
  go_wp2_with fail
  refine HCN.out.mono ?_
  rintro e w3 ⟨rfl, hb⟩
  have hz3 : w2.heap.size ≤ w3.heap.size := hb.size
  replace X0 := Lib.hid (box_below X0.out hb (by omega))
  replace X1 := Lib.hid (box_below X1.out hb (by omega))
  replace B1 : Hid (Below w.heap.size w w3) := B1.out.trans (hb.mono (by omega))
  replace x0 := box_cells X0.out 0
  replace x1 := box_cells X1.out 0
  replace f1 := box_free X1.out 0
  simp only [List.getElem?_toArray, List.getElem?_cons_zero] at x0 x1
  clear hb HCN
  have HOF := Lib.hid (l05Of_any ao len cap ps HPL.out (by have := HPL.out; omega) t 0 w3 (HA.out.below B1.out (Nat.le_refl _)) HY.out.at0)
  go_wp2_with fail
  refine HOF.out.mono ?_
  rintro e w4 ⟨s, rfl, ht, hnd, hge, hb⟩
  have hz4 : w3.heap.size ≤ w4.heap.size := hb.size
  replace X0 := Lib.hid (box_below X0.out hb (by omega))
  replace X1 := Lib.hid (box_below X1.out hb (by omega))
  replace B1 : Hid (Below w.heap.size w w4) := B1.out.trans (hb.mono (by omega))
  have HSP := Lib.hid (l05Split_any pn fr rws t s w4 W H ht hnd HY.out.nd HY.out.ft (by omega) (by omega))
  have HGE := Lib.hid hge
  clear hb HOF x0 x1 f1 ht hnd hge
  go_wp2_with fail
  refine HSP.out.mono ?_
  rintro e w5 ⟨rfl, s5, ht5, hr5, hnd5, hs5, ho5⟩
  have hb : Below w3.heap.size w4 w5 := ho5.below HGE.out hz4
  have hz5 : w4.heap.size ≤ w5.heap.size := hb.size
  replace X0 := Lib.hid (box_below X0.out hb (by omega))
  replace X1 := Lib.hid (box_below X1.out hb (by omega))
  replace B1 : Hid (Below w.heap.size w w5) := B1.out.trans (hb.mono (by omega))
  obtain ⟨k1, k2, k3⟩ := Tr.split_facts (fresh := fr) (rw_ := rws) (w := W) (h := H) HY.out.nd hp
  have hsl := (t.split pn fr rws W H).len_eq
  obtain ⟨m, hm⟩ : ∃ m, (t.split pn fr rws W H).len = m := ⟨_, rfl⟩
  have HM := Lib.hid hm
  have hm13 : m ≤ 13 ∧ 0 < m := by omega
  obtain ⟨hm1, hm2⟩ := hm13
  have HLY := Lib.hid (l05Layout_any (t.split pn fr rws W H) s5 w5 ht5 (by omega))
  rw [hr5] at HLY
  have hok := HY.out.split_ok (rw_ := rws) hf1 hf2 hp hf h6
  have HPM : Hid (((t.split pn fr rws W H).parts 0).length = m) := by show _ = _; rw [Tr.length_parts]; exact hm
  clear hb ht5 hr5 hnd5 hs5 ho5 HSP HGE k1 k2 k3 hsl hm hp hf
  go_wp2_with fail
  refine HLY.out.mono ?_
  rintro e w6 ⟨a6, c6, rfl, hc6, hm6, hb⟩
  rw [HM.out] at hc6 ⊢
  have hz6 : w5.heap.size ≤ w6.heap.size := hb.size
  replace X0 := Lib.hid (box_below X0.out hb (by omega))
  replace X1 := Lib.hid (box_below X1.out hb (by omega))
  replace B1 : Hid (Below w.heap.size w w6) := B1.out.trans (hb.mono (by omega))
  have hA6 : Below w6.heap.size w6 (w6.alloc (.cells #[.slice a6 m c6] 26)) := (Below.refl _ _).alloc (Nat.le_refl _) _
  have X6 := Lib.hid (box_new w6 (.cells #[.slice a6 m c6] 26))
  replace X0 := Lib.hid (box_below X0.out hA6 (by omega))
  replace X1 := Lib.hid (box_below X1.out hA6 (by omega))
  replace B1 : Hid (Below w.heap.size w (w6.alloc (.cells #[.slice a6 m c6] 26))) := B1.out.trans (hA6.mono (by omega))
  have HM6 : Hid (Mine w5.heap.size (w6.alloc (.cells #[.slice a6 m c6] 26)) a6 (partsV ((t.split pn fr rws W H).parts 0))) := hm6.below hA6 (Nat.le_refl _)
  have HOK := Lib.hid (l05OK_any a6 m c6 ((t.split pn fr rws W H).parts 0) HPM.out (by omega) hc6 W H (w6.alloc (.cells #[.slice a6 m c6] 26)) HM6.out.at)
  rw [hok] at HOK
  have HC6 := Lib.hid hc6
  clear hb hm6 hc6 hA6 HLY hok
  go_wp2_with fail
  generalize hv : w6.alloc (.cells #[.slice a6 m c6] 26) = v6 at *
  have hz6' : v6.heap.size = w6.heap.size + 1 := by rw [← hv]; simp
  clear hv
  refine HOK.out.mono ?_
  rintro e w7 ⟨rfl, hb⟩
  have hz7 : v6.heap.size ≤ w7.heap.size := hb.size
  replace X0 := Lib.hid (box_below X0.out hb (by omega))
  replace X1 := Lib.hid (box_below X1.out hb (by omega))
  replace X6 := Lib.hid (box_below X6.out hb (by omega))
  replace B1 : Hid (Below w.heap.size w w7) := B1.out.trans (hb.mono (by omega))
  replace HM6 := Lib.hid (HM6.out.below hb (Nat.le_refl _))
  have x0 := box_cells X0.out 0
  have x1 := box_cells X1.out 0
  have x6 := box_cells X6.out 0
  have f1 := box_free X1.out 0
  simp only [List.getElem?_toArray, List.getElem?_cons_zero] at x0 x1 x6
  clear hb HOK
  by_cases hw : 2 ≤ t.whole pn rws W H / 2
  · obtain ⟨rfl, rfl⟩ : t' = t.split pn fr rws W H ∧ cd = 0 := by
      rcases hO with h | h | h | ⟨_, _, _, h, _⟩ | ⟨_, _, _, _, h1, h2⟩
      · exact absurd HP.out h.1
      · exact absurd h.2.1 HF.out
      · exact absurd h.2.2.1 h6
      · omega
      · exact ⟨h1, h2⟩
    have hnm : m = n := by rw [← HPM.out, ← HRT.out]; exact HRL.out
    subst hnm
    rw [decide_eq_true hw]
    clear hO hw h6
    go_wp2
    refine bodyPost_ret (v := .tuple #[.agg #[.slice a6 m c6], .int .i64 0]) (by simp [results, Tryd.results22, x1, go_sem]) rfl ⟨a6, c6, rfl, HC6.out, ?_, ?_⟩
    · rw [HRT.out]; exact (HM6.out.set_oth (by dsimp only; omega) _).at
    · exact B1.out.setCell (by dsimp only; omega) _
  · obtain ⟨rfl, rfl⟩ : t' = t ∧ cd = 10 := by
      rcases hO with h | h | h | ⟨_, _, _, _, h1, h2⟩ | ⟨_, _, _, h, _⟩
      · exact absurd HP.out h.1
      · exact absurd h.2.1 HF.out
      · exact absurd h.2.2.1 h6
      · exact ⟨h1, h2⟩
      · exact absurd h hw
    obtain ⟨HRP, HLN⟩ := HKP.out rfl
    rw [decide_eq_false hw]
    clear hO hw h6 HKP
    go_wp2
    refine bodyPost_ret (v := .tuple #[.agg #[.slice ao len cap], .int .i64 10]) (by simp [results, Tryd.results22, x1, go_sem]) rfl ⟨ao, cap, by rw [HLN.out], by rw [← HLN.out]; exact hlc, ?_, ?_⟩
    · rw [HRP.out]; exact HA.out.below (B1.out.setCell (by dsimp only; omega) _) (Nat.le_refl _)
    · exact B1.out.setCell (by dsimp only; omega) _
set_option maxHeartbeats 4000000 in
theorem specSplitR_any (ao : Option Addr) (len cap : Nat) (ps : List PartV) (W H pn fr : Int) (rws : Bool) (n : Nat) (rl : List PartV) (cd : Int) (w : World) (ha : At w ao (partsV ps)) (hl : ps.length = len) (hlc : len ≤ cap) (hn : len ≤ 2000000) (hR : SplitR ps W H pn fr rws rl cd) (hrl : rl.length = n) :
    Calls Tryd.prog 8 #[.agg #[.slice ao len cap], .int .i64 W, .int .i64 H, .int .i64 pn, .int .i64 fr, .bool rws] w fun e w' => ∃ ao cap, e = .returned (.tuple #[.agg #[.slice ao n cap], .int .i64 cd]) ∧ n ≤ cap ∧ Mine w.heap.size w' ao (partsV rl) ∧ Below w.heap.size w w' := by
  obtain ⟨V, hV⟩ : ∃ V, ((w.alloc (.cells #[.slice ao len cap] 26)).alloc (.cells #[.slice none 0 0] 26)) = V := ⟨_, rfl⟩
  have hB : Below w.heap.size w V := by rw [← hV]; exact ((Below.refl _ _).alloc (Nat.le_refl _) _).alloc (by simp) _
  have hz : V.heap.size = w.heap.size + 2 := by rw [← hV]; simp
  have m0 : V.heap[w.heap.size]? = some (.cells #[.slice ao len cap] 26 (0, 0)) := by rw [← hV, Below.heap_alloc _ _ _ (by simp)]; exact heap_alloc_new w _
  have m1 : V.heap[w.heap.size + 1]? = some (.cells #[.slice none 0 0] 26 (0, 0)) := by
    rw [← hV]
    have := heap_alloc_new (w.alloc (.cells #[.slice ao len cap] 26)) (.cells #[.slice none 0 0] 26)
    rw [World.size_alloc] at this; exact this
  have HO := Lib.hid (l05OK_any ao len cap ps hl hn hlc W H V (ha.below hB (Nat.le_refl _)))
  have HB := Lib.hid hB
  have HM0 := Lib.hid m0
  have HM1 := Lib.hid m1
  have HA := Lib.hid ha
  have HZ := Lib.hid hz
  rcases hR with ⟨h, rfl, rfl⟩ | ⟨t, y, hRR⟩
  · rw [h] at HO
    subst hrl
    clear ha hB m0 m1 hz hl h
    subst hV
    go_enter Tryd.func8, Tryd.ntmps8
    go_wp2_with fail
    refine HO.out.mono ?_
    generalize ((w.alloc (.cells #[.slice ao len cap] 26)).alloc (.cells #[.slice none 0 0] 26)) = V at *
    rintro e w1 ⟨rfl, hb1⟩
    have hzV := HZ.out
    have hz1 : V.heap.size ≤ w1.heap.size := hb1.size
    have X0 := Lib.hid (box_below HM0.out hb1 (by omega))
    have X1 := Lib.hid (box_below HM1.out hb1 (by omega))
    have B1 : Hid (Below w.heap.size w w1) := HB.out.trans (hb1.mono (by omega))
    clear hb1 HO HB HM0 HM1
    have x1 := box_cells X1.out 0
    have f1 := box_free X1.out 0
    simp only [List.getElem?_toArray, List.getElem?_cons_zero] at x1
    go_wp2
    refine bodyPost_ret (v := .tuple #[.agg #[.slice none 0 0], .int .i64 1]) (by simp [results, Tryd.results8, x1, go_sem]) rfl ⟨none, 0, rfl, Nat.le_refl _, .inl rfl, ?_⟩
    first
      | exact B1.out
      | exact B1.out.setCell (by dsimp only; omega) _
  · rw [okL_true y] at HO
    rcases hRR with ⟨hs, rfl, rfl⟩ | ⟨hs, hQ⟩
    · subst hrl
      have HS : Hid (∀ W : World, Calls Tryd.prog 21 #[.int .i64 fr, .int .i64 1, .int .i64 1000] W fun e w' => e = .returned (.bool false) ∧ W = w') := fun W => by
        have h := l01In_inB fr 1 1000 W
        rw [hs] at h
        exact h
      clear ha hB m0 m1 hz hl y hs
      subst hV
      go_enter Tryd.func8, Tryd.ntmps8
      go_wp2_with fail
      refine HO.out.mono ?_
      generalize ((w.alloc (.cells #[.slice ao len cap] 26)).alloc (.cells #[.slice none 0 0] 26)) = V at *
      rintro e w1 ⟨rfl, hb1⟩
      have hzV := HZ.out
      have hz1 : V.heap.size ≤ w1.heap.size := hb1.size
      have X0 := Lib.hid (box_below HM0.out hb1 (by omega))
      have X1 := Lib.hid (box_below HM1.out hb1 (by omega))
      have B1 : Hid (Below w.heap.size w w1) := HB.out.trans (hb1.mono (by omega))
      clear hb1 HO HB HM0 HM1
      have x0 := box_cells X0.out 0
      simp only [List.getElem?_toArray, List.getElem?_cons_zero] at x0
      have x1 := box_cells X1.out 0
      have f1 := box_free X1.out 0
      simp only [List.getElem?_toArray, List.getElem?_cons_zero] at x1
      go_wp2_with (go_at_call 21; refine (HS.out _).mono ?_; rintro e w' ⟨rfl, rfl⟩)
      refine bodyPost_ret (v := .tuple #[.agg #[.slice none 0 0], .int .i64 4]) (by simp [results, Tryd.results8, x1, go_sem]) rfl ⟨none, 0, rfl, Nat.le_refl _, .inl rfl, ?_⟩
      first
        | exact B1.out
        | exact B1.out.setCell (by dsimp only; omega) _
    · have HS : Hid (∀ W : World, Calls Tryd.prog 21 #[.int .i64 fr, .int .i64 1, .int .i64 1000] W fun e w' => e = .returned (.bool true) ∧ W = w') := fun W => by
        have h := l01In_inB fr 1 1000 W
        rw [hs] at h
        exact h
      have hpos := splitQ_pos y hQ
      rw [hrl] at hpos
      obtain ⟨p1, p2⟩ := hpos
      have HL := Lib.hid hl
      have HY := Lib.hid y
      have HQ := Lib.hid hQ
      have HRL := Lib.hid hrl
      have HSS := Lib.hid hs
      clear ha hB m0 m1 hz hl y hQ hrl hs
      subst hV
      go_enter Tryd.func8, Tryd.ntmps8
      go_wp2_with fail
      refine HO.out.mono ?_
      generalize ((w.alloc (.cells #[.slice ao len cap] 26)).alloc (.cells #[.slice none 0 0] 26)) = V at *
      rintro e w1 ⟨rfl, hb1⟩
      have hzV := HZ.out
      have hz1 : V.heap.size ≤ w1.heap.size := hb1.size
      have X0 := Lib.hid (box_below HM0.out hb1 (by omega))
      have X1 := Lib.hid (box_below HM1.out hb1 (by omega))
      have B1 : Hid (Below w.heap.size w w1) := HB.out.trans (hb1.mono (by omega))
      clear hb1 HO HB HM0 HM1
      have HI := Lib.hid (l05SplitArea_any ao len cap ps HL.out hlc W H pn fr rws t HY.out n rl cd HQ.out HRL.out w1 (HA.out.below B1.out (Nat.le_refl _)))
      have x0 := box_cells X0.out 0
      simp only [List.getElem?_toArray, List.getElem?_cons_zero] at x0
      go_wp2_with (first | (go_at_call 21; refine (HS.out _).mono ?_; rintro e w' ⟨rfl, rfl⟩) | fail)
      refine HI.out.mono ?_
      rintro e w2 ⟨a2, c2, rfl, hc2, hat2, hb2⟩
      have hz2 : w1.heap.size ≤ w2.heap.size := hb2.size
      replace X1 := Lib.hid (box_below X1.out hb2 (by omega))
      replace B1 : Hid (Below w.heap.size w w2) := B1.out.trans (hb2.mono (by omega))
      have hA2 : Below w2.heap.size w2 (w2.alloc (.cells #[.slice a2 n c2] 26)) := (Below.refl _ _).alloc (Nat.le_refl _) _
      have HW := Lib.hid (l05Own_any a2 n c2 rl HRL.out p1 (by omega) (w2.alloc (.cells #[.slice a2 n c2] 26)) (hat2.below hA2 (Nat.le_refl _)))
      replace X1 := Lib.hid (box_below X1.out hA2 (by omega))
      replace B1 : Hid (Below w.heap.size w (w2.alloc (.cells #[.slice a2 n c2] 26))) := B1.out.trans (hA2.mono (by omega))
      clear hb2 hat2 hc2 HI hA2 x0 X0
      go_wp2_with fail
      refine HW.out.mono ?_
      rintro e w3 ⟨a3, c3, rfl, hc3, hm3, hb3⟩
      have hs3 : w2.heap.size + 1 ≤ w3.heap.size := by have := hb3.size; simpa using this
      replace X1 := Lib.hid (box_below X1.out hb3 (by simp; omega))
      replace B1 : Hid (Below w.heap.size w w3) := B1.out.trans (hb3.mono (by simp; omega))
      have HM : Hid (Mine w2.heap.size w3 a3 (partsV rl)) := hm3.mono (by simp)
      have HC3 := Lib.hid hc3
      have x1 := box_cells X1.out 0
      have f1 := box_free X1.out 0
      simp only [List.getElem?_toArray, List.getElem?_cons_zero] at x1
      clear hb3 hm3 hc3 HW
      go_wp2
      refine bodyPost_ret (v := .tuple #[.agg #[.slice a3 n c3], .int .i64 cd]) (by simp [results, Tryd.results8, x1, go_sem]) rfl ⟨a3, c3, rfl, HC3.out, ?_, ?_⟩
      · exact (HM.out.set_oth (by dsimp only; omega) _).mono (by omega)
      · exact B1.out.setCell (by dsimp only; omega) _
end Go.Proofs.YtaacccooidehlaaDoor
