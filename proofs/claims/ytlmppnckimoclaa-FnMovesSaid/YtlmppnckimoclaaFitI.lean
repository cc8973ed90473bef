/-
  Contract of the given program's FitLayout, in one form. Conditions: the parts lie as the cells say.
-/
import Derived.Test.YtlmppnckimoclaaFitR
namespace Go.Proofs.Ytlmppnckimoclaa
open Go.ChangeShapes Go.WideShapes Go.ChangeAt Go.RowKit
set_option linter.unusedVariables false
set_option linter.unusedSimpArgs false
set_option maxRecDepth 100000
set_option maxHeartbeats 4000000 in
theorem implFitR_any (ao : Option Addr) (len cap : Nat) (ps : List PartV) (W H nw nh : Int) (n : Nat) (rl : List PartV) (cd : Int) (w : World) (ha : At w ao (partsV ps)) (hl : ps.length = len) (hlc : len ≤ cap) (hn : len ≤ 2000000) (hR : FitR ps W H nw nh rl cd) (hrl : rl.length = n) :
    Calls Try.prog 11 #[.agg #[.slice ao len cap], .int .i64 W, .int .i64 H, .int .i64 nw, .int .i64 nh] w fun e w' => ∃ ao cap, e = .returned (.tuple #[.agg #[.slice ao n cap], .int .i64 cd]) ∧ n ≤ cap ∧ Mine w.heap.size w' ao (partsV rl) ∧ Below w.heap.size w w' := by
  obtain ⟨V, hV⟩ : ∃ V, ((w.alloc (.cells #[.slice ao len cap] 26)).alloc (.cells #[.slice none 0 0] 26)) = V := ⟨_, rfl⟩
  have hB : Below w.heap.size w V := by rw [← hV]; exact ((Below.refl _ _).alloc (Nat.le_refl _) _).alloc (by simp) _
  have hz : V.heap.size = w.heap.size + 2 := by rw [← hV]; simp
  have m0 : V.heap[w.heap.size]? = some (.cells #[.slice ao len cap] 26 (0, 0)) := by rw [← hV, Below.heap_alloc _ _ _ (by simp)]; exact heap_alloc_new w _
  have m1 : V.heap[w.heap.size + 1]? = some (.cells #[.slice none 0 0] 26 (0, 0)) := by
    rw [← hV]
    have := heap_alloc_new (w.alloc (.cells #[.slice ao len cap] 26)) (.cells #[.slice none 0 0] 26)
    rw [World.size_alloc] at this; exact this
  have HO := Lib.hid (treeOf_any ao len cap ps W H V (ha.below hB (Nat.le_refl _)) hl hlc hn)
  have HB := Lib.hid hB
  have HM0 := Lib.hid m0
  have HM1 := Lib.hid m1
  have HA := Lib.hid ha
  have HZ := Lib.hid hz
  have HR := Lib.hid hR
  have HRL := Lib.hid hrl
  have HPL := Lib.hid hl
  clear ha hB m0 m1 hz hR hrl hl
  subst hV
  go_enter Try.func11, Try.ntmps11
  go_wp2_with fail
  refine HO.out.mono ?_
  generalize ((w.alloc (.cells #[.slice ao len cap] 26)).alloc (.cells #[.slice none 0 0] 26)) = V at *
  rintro e w1 ⟨hb1, hcase⟩
  have hzV := HZ.out
  have hz1 : V.heap.size ≤ w1.heap.size := hb1.size
  have X0 := Lib.hid (box_below HM0.out hb1 (by omega))
  have X1 := Lib.hid (box_below HM1.out hb1 (by omega))
  have B1 : Hid (Below w.heap.size w w1) := HB.out.trans (hb1.mono (by omega))
  clear hb1 HO HB HM0 HM1
  rcases hcase with ⟨hno, rfl⟩ | ⟨t, s, hy, rfl, ht, hnd, hge⟩
  · rcases HR.out with ⟨_, rfl, rfl⟩ | ⟨t, y, _⟩
    rotate_left
    · exact absurd y (hno t)
    obtain rfl : n = 0 := HRL.out.symm
    clear hno HR HRL
    have x1 := box_cells X1.out 0
    have f1 := box_free X1.out 0
    simp only [List.getElem?_toArray, List.getElem?_cons_zero] at x1
    go_wp2
    refine bodyPost_ret (v := .tuple #[.agg #[.slice none 0 0], .int .i64 1]) (by simp [results, Try.results11, x1, go_sem]) rfl ⟨none, 0, rfl, Nat.le_refl _, .inl rfl, ?_⟩
    first
      | exact B1.out
      | exact B1.out.setCell (by dsimp only; omega) _
  · rcases HR.out with ⟨h, _⟩ | ⟨t', y', hRR⟩
    · exact absurd hy (okL_none h t)
    obtain rfl := y'.unique hy
    clear y'
    rcases hRR with ⟨hs, rfl, rfl⟩ | ⟨hs, hQ⟩
    · obtain rfl : n = 0 := HRL.out.symm
      have HS : Hid (∀ W : World, Calls Try.prog 26 #[.int .i64 nw, .int .i64 nh] W fun e w' => e = .returned (.bool false) ∧ W = w') := fun W => by
        have h := isSize_any nw nh W
        rw [hs] at h
        exact h
      clear hs HR HRL ht hnd hge hy
      have x1 := box_cells X1.out 0
      have f1 := box_free X1.out 0
      simp only [List.getElem?_toArray, List.getElem?_cons_zero] at x1
      go_wp2_with (go_at_call 26; refine (HS.out _).mono ?_; rintro e w' ⟨rfl, rfl⟩)
      refine bodyPost_ret (v := .tuple #[.agg #[.slice none 0 0], .int .i64 4]) (by simp [results, Try.results11, x1, go_sem]) rfl ⟨none, 0, rfl, Nat.le_refl _, .inl rfl, ?_⟩
      first
        | exact B1.out
        | exact B1.out.setCell (by dsimp only; omega) _
    · have HS : Hid (∀ W : World, Calls Try.prog 26 #[.int .i64 nw, .int .i64 nh] W fun e w' => e = .returned (.bool true) ∧ W = w') := fun W => by
        have h := isSize_any nw nh W
        rw [hs] at h
        exact h
      obtain ⟨l1, l2, l3, l4⟩ := hy.len
      have HY := Lib.hid hy
      have HT := Lib.hid ht
      have HGE := Lib.hid hge
      have HND := Lib.hid hnd
      clear HR hy ht hge hnd
      obtain ⟨s1, s2, s3, s4⟩ := sizeB_le hs
      clear hs
      rcases hQ with ⟨q1, q2, rfl, rfl⟩ | ⟨q, rfl, rfl⟩
      · have HN : Hid (t'.okN) := Tr.fits_okN HY.out.ft
        have HFT : Hid (∀ W : World, TreI W s t' → Calls Try.prog 27 #[.pointer (some ⟨s.root, 0, none⟩), .int .i64 nw, .int .i64 nh] W fun e w' => e = .returned (.bool true) ∧ W = w') := fun W hW => by
          have h := fits_any t' s W nw nh hW HN.out (by omega)
          rw [show (decide (t'.needW ≤ nw) && decide (t'.needH ≤ nh)) = true from by simp [q1, q2]] at h
          exact h
        have HF := Lib.hid (fit_any t' s w1 nw nh HT.out HND.out HN.out (by omega) q1 q2 (by omega) (by omega))
        have HOK : Hid ((t'.fit nw nh).okP) := Tr.fits_okP (t'.fit_fits nw nh HN.out q1 q2) s2 (by omega)
        have HFT2 := Lib.hid (HFT.out w1 HT.out)
        have hfl := (t'.fit_same nw nh).2.2.1
        have HLN : Hid ((t'.fit nw nh).len = n) := by have := HRL.out; rw [Tr.length_parts] at this; exact this
        have hl11 : (t'.fit nw nh).len ≤ 11 := by omega
        clear HFT q1 q2 HN hfl
        go_wp2_with (first | (go_at_call 26; refine (HS.out _).mono ?_; rintro e w' ⟨rfl, rfl⟩) | fail)
        refine HFT2.out.mono ?_
        rintro e w' ⟨rfl, rfl⟩
        go_wp2_with fail
        refine HF.out.mono ?_
        rintro e w2 ⟨rfl, ht2, ho2⟩
        have hb2 : Below V.heap.size w1 w2 := ho2.below HGE.out hz1
        have hz2 : w1.heap.size ≤ w2.heap.size := hb2.size
        replace X0 := Lib.hid (box_below X0.out hb2 (by omega))
        replace X1 := Lib.hid (box_below X1.out hb2 (by omega))
        replace B1 : Hid (Below w.heap.size w w2) := B1.out.trans (hb2.mono (by omega))
        have HT2 := Lib.hid ht2
        clear ht2 ho2 hb2 HF HGE HFT2
        have HL := Lib.hid (layoutOf_any (t'.fit nw nh) s w2 HT2.out HOK.out (by omega))
        go_wp2_with fail
        refine HL.out.mono ?_
        rintro e w3 ⟨a3, c3, rfl, hc3, hm3, hb3⟩
        rw [HLN.out] at hc3 ⊢
        replace X1 := Lib.hid (box_below X1.out hb3 (by omega))
        replace B1 : Hid (Below w.heap.size w w3) := B1.out.trans (hb3.mono (by omega))
        have HM : Hid (Mine w2.heap.size w3 a3 (partsV ((t'.fit nw nh).parts 0))) := hm3
        have HC3 := Lib.hid hc3
        have x1 := box_cells X1.out 0
        have f1 := box_free X1.out 0
        simp only [List.getElem?_toArray, List.getElem?_cons_zero] at x1
        clear hb3 hm3 hc3 HL
        go_wp2
        refine bodyPost_ret (v := .tuple #[.agg #[.slice a3 n c3], .int .i64 0]) (by simp [results, Try.results11, x1, go_sem]) rfl ⟨a3, c3, rfl, HC3.out, ?_, ?_⟩
        · exact (HM.out.set_oth (by dsimp only; omega) _).mono (by omega)
        · exact B1.out.setCell (by dsimp only; omega) _
      · have HN : Hid (t'.okN) := Tr.fits_okN HY.out.ft
        have HFT : Hid (Calls Try.prog 27 #[.pointer (some ⟨s.root, 0, none⟩), .int .i64 nw, .int .i64 nh] w1 fun e w' => e = .returned (.bool false) ∧ w1 = w') := by
          have h := fits_any t' s w1 nw nh HT.out HN.out (by omega)
          rw [show (decide (t'.needW ≤ nw) && decide (t'.needH ≤ nh)) = false from by rw [Bool.eq_false_iff]; simp only [ne_eq, Bool.and_eq_true, decide_eq_true_eq]; exact q] at h
          exact h
        have HLN : Hid (t'.len = n) := by show _ = _; rw [← l3]; exact HRL.out
        have HOK := Lib.hid HY.out.okP
        have HEQ := Lib.hid HY.out.eq
        clear q HN
        go_wp2_with (first | (go_at_call 26; refine (HS.out _).mono ?_; rintro e w' ⟨rfl, rfl⟩) | fail)
        refine HFT.out.mono ?_
        rintro e w' ⟨rfl, rfl⟩
        clear HFT
        have HL := Lib.hid (layoutOf_any t' s w1 HT.out HOK.out (by omega))
        go_wp2_with fail
        refine HL.out.mono ?_
        rintro e w3 ⟨a3, c3, rfl, hc3, hm3, hb3⟩
        rw [HLN.out] at hc3 ⊢
        replace X1 := Lib.hid (box_below X1.out hb3 (by omega))
        replace B1 : Hid (Below w.heap.size w w3) := B1.out.trans (hb3.mono (by omega))
        have HM : Hid (Mine w1.heap.size w3 a3 (partsV rl)) := by show Mine _ _ _ (partsV _); rw [HEQ.out]; exact hm3
        have HC3 := Lib.hid hc3
        have x1 := box_cells X1.out 0
        have f1 := box_free X1.out 0
        simp only [List.getElem?_toArray, List.getElem?_cons_zero] at x1
        clear hb3 hm3 hc3 HL
        go_wp2
        refine bodyPost_ret (v := .tuple #[.agg #[.slice a3 n c3], .int .i64 10]) (by simp [results, Try.results11, x1, go_sem]) rfl ⟨a3, c3, rfl, HC3.out, ?_, ?_⟩
        · exact (HM.out.set_oth (by dsimp only; omega) _).mono (by omega)
        · exact B1.out.setCell (by dsimp only; omega) _
end Go.Proofs.Ytlmppnckimoclaa
