/-
  Contract of the reference's FitLayout, in one form. Conditions: the parts lie as the cells say.
-/
import Derived.Test.YtlmppnckimoclaaFitR
namespace Go.Proofs.Ytlmppnckimoclaa
open Go.ChangeShapes Go.WideShapes Go.ChangeAt Go.RowKit
set_option linter.unusedVariables false
set_option linter.unusedSimpArgs false
set_option maxRecDepth 100000
set_option maxHeartbeats 4000000 in
theorem specFitR_any (ao : Option Addr) (len cap : Nat) (ps : List PartV) (W H nw nh : Int) (n : Nat) (rl : List PartV) (cd : Int) (w : World) (ha : At w ao (partsV ps)) (hl : ps.length = len) (hlc : len ≤ cap) (hn : len ≤ 2000000) (hR : FitR ps W H nw nh rl cd) (hrl : rl.length = n) :
    Calls Try.prog 12 #[.agg #[.slice ao len cap], .int .i64 W, .int .i64 H, .int .i64 nw, .int .i64 nh] w fun e w' => ∃ ao cap, e = .returned (.tuple #[.agg #[.slice ao n cap], .int .i64 cd]) ∧ n ≤ cap ∧ Mine w.heap.size w' ao (partsV rl) ∧ Below w.heap.size w w' := by
  obtain ⟨V, hV⟩ : ∃ V, ((w.alloc (.cells #[.slice ao len cap] 26)).alloc (.cells #[.slice none 0 0] 26)) = V := ⟨_, rfl⟩
  have hB : Below w.heap.size w V := by rw [← hV]; exact ((Below.refl _ _).alloc (Nat.le_refl _) _).alloc (by simp) _
  have hz : V.heap.size = w.heap.size + 2 := by rw [← hV]; simp
  have m0 : V.heap[w.heap.size]? = some (.cells #[.slice ao len cap] 26 (0, 0)) := by rw [← hV, Below.heap_alloc _ _ _ (by simp)]; exact heap_alloc_new w _
  have m1 : V.heap[w.heap.size + 1]? = some (.cells #[.slice none 0 0] 26 (0, 0)) := by
    rw [← hV]
    have := heap_alloc_new (w.alloc (.cells #[.slice ao len cap] 26)) (.cells #[.slice none 0 0] 26)
    rw [World.size_alloc] at this; exact this
  have HO := Lib.hid (l05OK_any ao len cap ps hl hn hlc W H V (ha.below hB (Nat.le_refl _)))
  have HB := Lib.hid hB
  have HM0 := Lib.hid m0
  have HM1 := Lib.hid m1
  have HA := Lib.hid ha
  have HZ := Lib.hid hz
  rcases hR with ⟨h, rfl, rfl⟩ | ⟨t, y, hRR⟩
  · rw [h] at HO
    subst hrl
    clear ha hB m0 m1 hz hl h
    subst hV
    go_enter Try.func12, Try.ntmps12
    go_wp2_with fail
    refine HO.out.mono ?_
    generalize ((w.alloc (.cells #[.slice ao len cap] 26)).alloc (.cells #[.slice none 0 0] 26)) = V at *
    rintro e w1 ⟨rfl, hb1⟩
    have hzV := HZ.out
    have hz1 : V.heap.size ≤ w1.heap.size := hb1.size
    have X0 := Lib.hid (box_below HM0.out hb1 (by omega))
    have X1 := Lib.hid (box_below HM1.out hb1 (by omega))
    have B1 : Hid (Below w.heap.size w w1) := HB.out.trans (hb1.mono (by omega))
    clear hb1 HO HB HM0 HM1
    have x1 := box_cells X1.out 0
    have f1 := box_free X1.out 0
    simp only [List.getElem?_toArray, List.getElem?_cons_zero] at x1
    go_wp2
    refine bodyPost_ret (v := .tuple #[.agg #[.slice none 0 0], .int .i64 1]) (by simp [results, Try.results12, x1, go_sem]) rfl ⟨none, 0, rfl, Nat.le_refl _, .inl rfl, ?_⟩
    first
      | exact B1.out
      | exact B1.out.setCell (by dsimp only; omega) _
  · rw [okL_true y] at HO
    rcases hRR with ⟨hs, rfl, rfl⟩ | ⟨hs, hQ⟩
    · subst hrl
      have HS : Hid (∀ W : World, Calls Try.prog 29 #[.int .i64 nw, .int .i64 nh] W fun e w' => e = .returned (.bool false) ∧ W = w') := fun W => by
        have h := l04Size_any nw nh W
        rw [hs] at h
        exact h
      clear ha hB m0 m1 hz hl y hs
      subst hV
      go_enter Try.func12, Try.ntmps12
      go_wp2_with fail
      refine HO.out.mono ?_
      generalize ((w.alloc (.cells #[.slice ao len cap] 26)).alloc (.cells #[.slice none 0 0] 26)) = V at *
      rintro e w1 ⟨rfl, hb1⟩
      have hzV := HZ.out
      have hz1 : V.heap.size ≤ w1.heap.size := hb1.size
      have X0 := Lib.hid (box_below HM0.out hb1 (by omega))
      have X1 := Lib.hid (box_below HM1.out hb1 (by omega))
      have B1 : Hid (Below w.heap.size w w1) := HB.out.trans (hb1.mono (by omega))
      clear hb1 HO HB HM0 HM1
      have x0 := box_cells X0.out 0
      simp only [List.getElem?_toArray, List.getElem?_cons_zero] at x0
      have x1 := box_cells X1.out 0
      have f1 := box_free X1.out 0
      simp only [List.getElem?_toArray, List.getElem?_cons_zero] at x1
      go_wp2_with (go_at_call 29; refine (HS.out _).mono ?_; rintro e w' ⟨rfl, rfl⟩)
      refine bodyPost_ret (v := .tuple #[.agg #[.slice none 0 0], .int .i64 4]) (by simp [results, Try.results12, x1, go_sem]) rfl ⟨none, 0, rfl, Nat.le_refl _, .inl rfl, ?_⟩
      first
        | exact B1.out
        | exact B1.out.setCell (by dsimp only; omega) _
    · have HS : Hid (∀ W : World, Calls Try.prog 29 #[.int .i64 nw, .int .i64 nh] W fun e w' => e = .returned (.bool true) ∧ W = w') := fun W => by
        have h := l04Size_any nw nh W
        rw [hs] at h
        exact h
      have hpos := fitQ_pos y hQ
      rw [hrl] at hpos
      obtain ⟨p1, p2⟩ := hpos
      have HL := Lib.hid hl
      have HY := Lib.hid y
      have HQ := Lib.hid hQ
      have HRL := Lib.hid hrl
      have HSS := Lib.hid hs
      clear ha hB m0 m1 hz hl y hQ hrl hs
      subst hV
      go_enter Try.func12, Try.ntmps12
      go_wp2_with fail
      refine HO.out.mono ?_
      generalize ((w.alloc (.cells #[.slice ao len cap] 26)).alloc (.cells #[.slice none 0 0] 26)) = V at *
      rintro e w1 ⟨rfl, hb1⟩
      have hzV := HZ.out
      have hz1 : V.heap.size ≤ w1.heap.size := hb1.size
      have X0 := Lib.hid (box_below HM0.out hb1 (by omega))
      have X1 := Lib.hid (box_below HM1.out hb1 (by omega))
      have B1 : Hid (Below w.heap.size w w1) := HB.out.trans (hb1.mono (by omega))
      clear hb1 HO HB HM0 HM1
      have HI := Lib.hid (l05FitLayout_any ao len cap ps HL.out hlc W H nw nh t HY.out HSS.out n rl cd HQ.out HRL.out w1 (HA.out.below B1.out (Nat.le_refl _)))
      have x0 := box_cells X0.out 0
      simp only [List.getElem?_toArray, List.getElem?_cons_zero] at x0
      go_wp2_with (first | (go_at_call 29; refine (HS.out _).mono ?_; rintro e w' ⟨rfl, rfl⟩) | fail)
      refine HI.out.mono ?_
      rintro e w2 ⟨a2, c2, rfl, hc2, hat2, hb2⟩
      have hz2 : w1.heap.size ≤ w2.heap.size := hb2.size
      replace X1 := Lib.hid (box_below X1.out hb2 (by omega))
      replace B1 : Hid (Below w.heap.size w w2) := B1.out.trans (hb2.mono (by omega))
      have hA2 : Below w2.heap.size w2 (w2.alloc (.cells #[.slice a2 n c2] 26)) := (Below.refl _ _).alloc (Nat.le_refl _) _
      have HW := Lib.hid (l05Own_any a2 n c2 rl HRL.out p1 (by omega) (w2.alloc (.cells #[.slice a2 n c2] 26)) (hat2.below hA2 (Nat.le_refl _)))
      replace X1 := Lib.hid (box_below X1.out hA2 (by omega))
      replace B1 : Hid (Below w.heap.size w (w2.alloc (.cells #[.slice a2 n c2] 26))) := B1.out.trans (hA2.mono (by omega))
      clear hb2 hat2 hc2 HI hA2 x0 X0
      go_wp2_with fail
      refine HW.out.mono ?_
      rintro e w3 ⟨a3, c3, rfl, hc3, hm3, hb3⟩
      have hs3 : w2.heap.size + 1 ≤ w3.heap.size := by have := hb3.size; simpa using this
      replace X1 := Lib.hid (box_below X1.out hb3 (by simp; omega))
      replace B1 : Hid (Below w.heap.size w w3) := B1.out.trans (hb3.mono (by simp; omega))
      have HM : Hid (Mine w2.heap.size w3 a3 (partsV rl)) := hm3.mono (by simp)
      have HC3 := Lib.hid hc3
      have x1 := box_cells X1.out 0
      have f1 := box_free X1.out 0
      simp only [List.getElem?_toArray, List.getElem?_cons_zero] at x1
      clear hb3 hm3 hc3 HW
      go_wp2
      refine bodyPost_ret (v := .tuple #[.agg #[.slice a3 n c3], .int .i64 cd]) (by simp [results, Try.results12, x1, go_sem]) rfl ⟨a3, c3, rfl, HC3.out, ?_, ?_⟩
      · exact (HM.out.set_oth (by dsimp only; omega) _).mono (by omega)
      · exact B1.out.setCell (by dsimp only; omega) _
end Go.Proofs.Ytlmppnckimoclaa
