/-
  Contract of the reference's LayoutOf: it gives a layout of the asked size. Conditions: the code's bytes stand in memory; bounds.
-/
import Derived.Test.YtlmppnckimoclaaLayDraw
import Derived.BigQuiet
namespace Go.Proofs.Ytlmppnckimoclaa
open Go.ChangeShapes Go.WideShapes Go.ChangeAt Go.RowKit
set_option linter.unusedVariables false
set_option linter.unusedSimpArgs false
set_option maxRecDepth 100000
def MkPost (W H : Int) (w : World) (e : Ending) (w' : World) : Prop :=
  ∃ (ao : Option Addr) (n cap : Nat) (ps : List PartV) (t : Tr), e = .returned (.agg #[.slice ao n cap]) ∧ LayM W H ps n cap t ∧ Mine w.heap.size w' ao (partsV ps) ∧ Below w.heap.size w w'
theorem mkLayout_any (w : World) (a : Option Addr) (len cap : Nat) (l : List UInt8) (ha : At w a (u8s l)) (hl : l.length = len) (hs : len ≤ 1048576) (W H : Int) (hw1 : 2 ≤ W) (hw2 : W ≤ 24) (hh1 : 2 ≤ H) (hh2 : H ≤ 10) :
    Calls Try.prog 6 #[.slice a len cap, .int .i64 W, .int .i64 H] w (MkPost W H w) := by
  obtain ⟨V, hV⟩ : ∃ V, (w.alloc (.cells #[.slice none 0 0] 26)) = V := ⟨_, rfl⟩
  have hA0 : Below w.heap.size w V := by rw [← hV]; exact (Below.refl _ _).alloc (Nat.le_refl _) _
  have hz : V.heap.size = w.heap.size + 1 := by rw [← hV]; simp
  have m0 : V.heap[w.heap.size]? = some (.cells #[.slice none 0 0] 26 (0, 0)) := by rw [← hV]; exact heap_alloc_new w _
  have haV : At V a (u8s l) := ha.below hA0 (Nat.le_refl _)
  have hb0 : Below V.heap.size V (V.alloc (.cells #[.slice a len cap, .int .i64 0, .int .i64 ((len : Int) % 1000)] 57)) := (Below.refl _ _).alloc (Nat.le_refl _) _
  have hS : Hid (Src (V.alloc (.cells #[.slice a len cap, .int .i64 0, .int .i64 ((len : Int) % 1000)] 57)) V.heap.size a cap l 0) := by
    refine ⟨len % 1000, by omega, ?_, haV.below hb0 (Nat.le_refl _), ?_⟩
    · rw [heap_alloc_new, hl]; simp
    · rcases haV with h | ⟨b1, o1, rfl, hc⟩
      · exact .inl h
      · by_cases he : u8s l = []
        · exact .inl he
        · refine .inr fun x hx => ?_
          cases hx
          have := World.block_lt_of_cell? V _ (hc 0 (List.length_pos_iff.2 he))
          show b1 ≠ V.heap.size
          have h2 : b1 < V.heap.size := this
          omega
  have HL := Lib.hid hl
  have HZ := Lib.hid hz
  have M0 := Lib.hid m0
  have HA0 := Lib.hid hA0
  have HB0 := Lib.hid hb0
  clear hl ha haV hz m0 hA0 hb0
  subst hV
  go_enter Try.func6, Try.ntmps6
  go_wp2_with fail
  generalize (w.alloc (.cells #[.slice none 0 0] 26)) = V at *
  refine (source_any V a len cap).mono ?_
  rintro e w1 ⟨rfl, rfl⟩
  go_wp2_with fail
  refine (layout_any _ V.heap.size a cap l hS.out (by have := HL.out; omega) W H hw1 hw2 hh1 hh2).mono ?_
  rintro e w2 ⟨ao, n, c, ps, t, rfl, h1, h4, h5⟩
  have hzV := HZ.out
  have hb2 : Below V.heap.size V w2 := HB0.out.grown h5 (by simp) (fun k hk => by cases hk; exact Nat.le_refl _)
  have X := box_below M0.out hb2 (by omega)
  have x := box_cells X 0
  have f := box_free X 0
  simp only [List.getElem?_toArray, List.getElem?_cons_zero] at x
  have BB : Hid (Below w.heap.size w w2) := HA0.out.trans (hb2.mono (by omega))
  have HM : Hid (Mine V.heap.size w2 ao (partsV ps)) := h4.mono (by simp)
  have HH := Lib.hid h1
  clear h1 h4 h5 hb2 X
  go_wp2_with fail
  refine bodyPost_ret (v := .agg #[.slice ao n c]) (by simp [results, Try.results6, x, go_sem]) rfl ⟨ao, n, c, ps, t, rfl, HH.out, ?_, ?_⟩
  · exact (HM.out.set_oth (by dsimp only; omega) _).mono (by omega)
  · exact BB.out.setCell (by dsimp only; omega) _
set_option maxHeartbeats 1000000 in
/-- sameParts: true of equal parts -/
theorem sameParts_same (a b : Option Addr) (n c c' : Nat) (l : List PartV) (w : World) (ha : At w a (partsV l)) (hb : At w b (partsV l)) (hl : l.length = n) (hn : n ≤ 16777216) :
    Calls Try.prog 10 #[.agg #[.slice a n c], .agg #[.slice b n c']] w fun e w' => e = .returned (.bool true) ∧ Below w.heap.size w w' := by
  have HL := Lib.hid hl
  have hA0 : Below w.heap.size w ((w.alloc (.cells #[.slice a n c] 26)).alloc (.cells #[.slice b n c'] 26)) := ((Below.refl _ _).alloc (Nat.le_refl _) _).alloc (by simp) _
  have m0 : ((w.alloc (.cells #[.slice a n c] 26)).alloc (.cells #[.slice b n c'] 26)).heap[w.heap.size]? = some (.cells #[.slice a n c] 26 (0, 0)) := by rw [Below.heap_alloc _ _ _ (by simp)]; exact heap_alloc_new w _
  have m1 : ((w.alloc (.cells #[.slice a n c] 26)).alloc (.cells #[.slice b n c'] 26)).heap[w.heap.size + 1]? = some (.cells #[.slice b n c'] 26 (0, 0)) := by
    have := heap_alloc_new (w.alloc (.cells #[.slice a n c] 26)) (.cells #[.slice b n c'] 26)
    rw [World.size_alloc] at this; exact this
  have HA := Lib.hid (ha.below hA0 (Nat.le_refl _))
  have HB := Lib.hid (hb.below hA0 (Nat.le_refl _))
  have HA0 := Lib.hid hA0
  have M0 := Lib.hid m0
  have M1 := Lib.hid m1
  have x0 := box_cells m0 0
  have x1 := box_cells m1 0
  simp only [List.getElem?_toArray, List.getElem?_cons_zero] at x0 x1
  clear ha hb hl hA0 m0 m1
  go_enter Try.func10, Try.ntmps10
  go_wp2_with fail
  generalize ((w.alloc (.cells #[.slice a n c] 26)).alloc (.cells #[.slice b n c'] 26)) = V at *
  have HLT : Hid (w.heap.size < V.heap.size ∧ w.heap.size + 1 < V.heap.size) := ⟨box_lt M0.out, box_lt M1.out⟩
  clear x0 x1
  go_loopw [5] (fun i wr => ∃ k : Nat, k ≤ n ∧ i = .int .i64 k ∧ Below V.heap.size V wr) (fun i _ => n - (intOf i).toNat)
  case atStart => exact ⟨0, Nat.zero_le _, rfl, Below.refl _ _⟩
  case round =>
    obtain ⟨k, hk, rfl, hbel⟩ := hrel
    have y0 := box_cells (box_below M0.out hbel HLT.out.1) 0
    have y1 := box_cells (box_below M1.out hbel HLT.out.2) 0
    simp only [List.getElem?_toArray, List.getElem?_cons_zero] at y0 y1
    by_cases hkt : k < n
    · obtain ⟨p, hp⟩ : ∃ p, l[k]? = some p := ⟨l[k]'(by have := HL.out; omega), List.getElem?_eq_getElem _⟩
      obtain ⟨b1, o1, rfl, c0, c1, c2, c3, c4⟩ := (HA.out.below hbel (Nat.le_refl _)).part hp
      obtain ⟨b2, o2, rfl, d0, d1, d2, d3, d4⟩ := (HB.out.below hbel (Nat.le_refl _)).part hp
      obtain ⟨pane, rows, size, left, right⟩ := p
      simp only at c0 c1 c2 c3 c4 d0 d1 d2 d3 d4
      have i1 : (0 : Int) ≤ (k : Int) := by omega
      have i2 : (k : Int) < (n : Int) := by omega
      clear hp
      go_wp2_with fail
      go_quiet (fail)
      go_wp2
      go_roundw
      case rel => exact ⟨k + 1, by omega, by go_num, hbel.trans ⟨rfl, rfl, rfl, Nat.le_refl _, fun _ _ => rfl⟩⟩
      case measure => simp [intOf] <;> omega
    · go_wp2
      go_ret
      exact ⟨rfl, HA0.out.trans (hbel.mono (by have := HLT.out; omega))⟩
end Go.Proofs.Ytlmppnckimoclaa
