/-
  Contracts of FitLayout of the reference and of the given program, in one form. Conditions: the parts lie as the cells say.
-/
import Derived.Test.YtlmppnckimoclaaTreLay
import Derived.Test.YtlmppnckimoclaaLayOK
namespace Go.Proofs.Ytlmppnckimoclaa
open Go.ChangeShapes Go.WideShapes Go.ChangeAt Go.RowKit
set_option linter.unusedVariables false
set_option linter.unusedSimpArgs false
set_option maxRecDepth 100000
theorem Lay.len {l : List PartV} {w h : Int} {t : Tr} (y : Lay l w h t) : t.len ≤ 11 ∧ t.leaves ≤ 6 ∧ l.length = t.len ∧ 0 < t.len := by
  have h1 := t.len_eq
  have h2 := y.lv
  have h3 := t.len_pos
  exact ⟨by omega, h2, by rw [y.eq, Tr.length_parts], h3⟩
theorem Lay.at0 {l : List PartV} {w h : Int} {t : Tr} (y : Lay l w h t) : PartsAt l 0 t := by rw [y.eq]; exact PartsAt.self t
/-- the answer of a call that hands back a layout that stands in memory -/
def LayAt (n : Nat) (rl : List PartV) (cd : Int) (w : World) (e : Ending) (w' : World) : Prop :=
  ∃ ao cap, e = .returned (.tuple #[.agg #[.slice ao n cap], .int .i64 cd]) ∧ n ≤ cap ∧ At w' ao (partsV rl) ∧ Below w.heap.size w w'
/-- what FitLayout answers to a layout -/
def FitQ (ps : List PartV) (nw nh : Int) (t : Tr) (rl : List PartV) (cd : Int) : Prop :=
  (t.needW ≤ nw ∧ t.needH ≤ nh ∧ rl = (t.fit nw nh).parts 0 ∧ cd = 0) ∨ (¬ (t.needW ≤ nw ∧ t.needH ≤ nh) ∧ rl = ps ∧ cd = 10)
def FitR (ps : List PartV) (W H nw nh : Int) (rl : List PartV) (cd : Int) : Prop :=
  (okL ps W H = false ∧ rl = [] ∧ cd = 1) ∨ ∃ t, Lay ps W H t ∧ ((sizeB nw nh = false ∧ rl = [] ∧ cd = 4) ∨ (sizeB nw nh = true ∧ FitQ ps nw nh t rl cd))
theorem fitR_total (ps : List PartV) (W H nw nh : Int) : ∃ rl cd, FitR ps W H nw nh rl cd ∧ rl.length ≤ 13 := by
  cases h : okL ps W H
  · exact ⟨[], 1, .inl ⟨h, rfl, rfl⟩, by simp⟩
  · obtain ⟨t, y⟩ := okL_get h
    obtain ⟨l1, l2, l3, l4⟩ := y.len
    cases hs : sizeB nw nh
    · exact ⟨[], 4, .inr ⟨t, y, .inl ⟨hs, rfl, rfl⟩⟩, by simp⟩
    · by_cases hf : t.needW ≤ nw ∧ t.needH ≤ nh
      · exact ⟨_, 0, .inr ⟨t, y, .inr ⟨hs, .inl ⟨hf.1, hf.2, rfl, rfl⟩⟩⟩, by rw [Tr.length_parts, (t.fit_same nw nh).2.2.1]; omega⟩
      · exact ⟨ps, 10, .inr ⟨t, y, .inr ⟨hs, .inr ⟨hf, rfl, rfl⟩⟩⟩, by omega⟩
theorem fitQ_pos {ps : List PartV} {W H nw nh : Int} {t : Tr} {rl : List PartV} {cd : Int} (y : Lay ps W H t) (h : FitQ ps nw nh t rl cd) : 0 < rl.length ∧ rl.length ≤ 13 := by
  obtain ⟨l1, l2, l3, l4⟩ := y.len
  rcases h with ⟨_, _, rfl, _⟩ | ⟨_, rfl, _⟩
  · rw [Tr.length_parts, (t.fit_same nw nh).2.2.1]; omega
  · omega
theorem sizeB_le {a b : Int} (h : sizeB a b = true) : 2 ≤ a ∧ a ≤ 24 ∧ 2 ≤ b ∧ b ≤ 10 := by unfold sizeB at h; exact of_decide_eq_true h
set_option maxHeartbeats 4000000 in
theorem l05FitLayout_any (ao : Option Addr) (len cap : Nat) (ps : List PartV) (hl : ps.length = len) (hlc : len ≤ cap) (W H nw nh : Int) (t : Tr) (y : Lay ps W H t) (hs : sizeB nw nh = true) (n : Nat) (rl : List PartV) (cd : Int) (hQ : FitQ ps nw nh t rl cd) (hrl : rl.length = n) (w : World) (ha : At w ao (partsV ps)) :
    Calls Try.prog 30 #[.agg #[.slice ao len cap], .int .i64 nw, .int .i64 nh] w (LayAt n rl cd w) := by
  obtain ⟨l1, l2, l3, l4⟩ := y.len
  obtain ⟨s1, s2, s3, s4⟩ := sizeB_le hs
  obtain ⟨V, hV⟩ : ∃ V, ((w.alloc (.cells #[.slice ao len cap] 26)).alloc (.cells #[.slice none 0 0] 26)) = V := ⟨_, rfl⟩
  have hB : Below w.heap.size w V := by rw [← hV]; exact ((Below.refl _ _).alloc (Nat.le_refl _) _).alloc (by simp) _
  have hz : V.heap.size = w.heap.size + 2 := by rw [← hV]; simp
  have m0 : V.heap[w.heap.size]? = some (.cells #[.slice ao len cap] 26 (0, 0)) := by rw [← hV, Below.heap_alloc _ _ _ (by simp)]; exact heap_alloc_new w _
  have m1 : V.heap[w.heap.size + 1]? = some (.cells #[.slice none 0 0] 26 (0, 0)) := by
    rw [← hV]
    have := heap_alloc_new (w.alloc (.cells #[.slice ao len cap] 26)) (.cells #[.slice none 0 0] 26)
    rw [World.size_alloc] at this; exact this
  have HC := Lib.hid (l05Of_any ao len cap ps hl (by omega) t 0 V (ha.below hB (Nat.le_refl _)) y.at0)
  have HB := Lib.hid hB
  have HM0 := Lib.hid m0
  have HM1 := Lib.hid m1
  have HA := Lib.hid ha
  have HZ := Lib.hid hz
  have HPL := Lib.hid hl
  clear hB m0 m1 ha hz y hs hl
  subst hV
  go_enter Try.func30, Try.ntmps30
  go_wp2_with fail
  refine HC.out.mono ?_
  generalize ((w.alloc (.cells #[.slice ao len cap] 26)).alloc (.cells #[.slice none 0 0] 26)) = V at *
  rintro e w1 ⟨s, rfl, ht, hnd, hge, hb1⟩
  have hzV := HZ.out
  have hz1 : V.heap.size ≤ w1.heap.size := hb1.size
  have X0 := Lib.hid (box_below HM0.out hb1 (by omega))
  have X1 := Lib.hid (box_below HM1.out hb1 (by omega))
  have B1 : Hid (Below w.heap.size w w1) := HB.out.trans (hb1.mono (by omega))
  clear hb1 HC HB HM0 HM1
  rcases hQ with ⟨q1, q2, rfl, rfl⟩ | ⟨q, rfl, rfl⟩
  · have HF := Lib.hid (l05Fit_any t s w1 nw nh ht hnd (by omega) q1 q2 (by omega) (by omega))
    rw [Tr.length_parts, (t.fit_same nw nh).2.2.1] at hrl
    have HLN : Hid ((t.fit nw nh).len = n) := by show _ = _; rw [(t.fit_same nw nh).2.2.1]; exact hrl
    have HGE := Lib.hid hge
    clear ht hnd hge q1 q2 hrl
    go_wp2_with fail
    refine HF.out.mono ?_
    rintro e w2 ⟨rfl, ht2, ho2⟩
    have hb2 : Below V.heap.size w1 w2 := ho2.below HGE.out hz1
    have hz2 : w1.heap.size ≤ w2.heap.size := hb2.size
    replace X0 := Lib.hid (box_below X0.out hb2 (by omega))
    replace X1 := Lib.hid (box_below X1.out hb2 (by omega))
    replace B1 : Hid (Below w.heap.size w w2) := B1.out.trans (hb2.mono (by omega))
    have HL := Lib.hid (l05Layout_any (t.fit nw nh) s w2 ht2 (by rw [(t.fit_same nw nh).2.2.1]; omega))
    clear ht2 ho2 hb2 HF HGE
    go_wp2_with fail
    refine HL.out.mono ?_
    rintro e w3 ⟨a3, c3, rfl, hc3, hm3, hb3⟩
    rw [HLN.out] at hc3 ⊢
    replace X1 := Lib.hid (box_below X1.out hb3 (by omega))
    replace B1 : Hid (Below w.heap.size w w3) := B1.out.trans (hb3.mono (by omega))
    have HM : Hid (Mine w2.heap.size w3 a3 (partsV ((t.fit nw nh).parts 0))) := hm3
    have HC3 := Lib.hid hc3
    have x1 := box_cells X1.out 0
    have f1 := box_free X1.out 0
    simp only [List.getElem?_toArray, List.getElem?_cons_zero] at x1
    clear hb3 hm3 hc3 HL X0
    go_wp2
    refine bodyPost_ret (v := .tuple #[.agg #[.slice a3 n c3], .int .i64 0]) (by simp [results, Try.results30, x1, go_sem]) rfl ⟨a3, c3, rfl, HC3.out, ?_, ?_⟩
    · exact (HM.out.set_oth (by dsimp only; omega) _).at
    · exact B1.out.setCell (by dsimp only; omega) _
  · have HF := Lib.hid (l05Fit_no t s w1 nw nh ht (by omega) q)
    have x0 := box_cells X0.out 0
    have x1 := box_cells X1.out 0
    have f1 := box_free X1.out 0
    simp only [List.getElem?_toArray, List.getElem?_cons_zero] at x0 x1
    have hln : n = len := hrl.symm.trans HPL.out
    subst hln
    clear ht hnd hge q hrl l3
    go_wp2_with fail
    refine HF.out.mono ?_
    rintro e w2 ⟨rfl, rfl⟩
    clear HF
    go_wp2
    refine bodyPost_ret (v := .tuple #[.agg #[.slice ao n cap], .int .i64 10]) (by simp [results, Try.results30, x1, go_sem]) rfl ⟨ao, cap, rfl, hlc, ?_, ?_⟩
    · exact HA.out.below (B1.out.setCell (by dsimp only; omega) _) (Nat.le_refl _)
    · exact B1.out.setCell (by dsimp only; omega) _
end Go.Proofs.Ytlmppnckimoclaa
