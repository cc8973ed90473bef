/-
  Contracts of the reference's l05Layout and l05Own. Conditions: the tree lies so; the slice is not empty.
-/
import Derived.Test.YtaacccooidehlaaDoorTrePut
import Derived.Test.YtaacccooidehlaaDoorLayOf
namespace Go.Proofs.YtaacccooidehlaaDoor
open Go.ChangeShapes Go.WideShapes Go.ChangeAt Go.RowKit
set_option linter.unusedVariables false
set_option linter.unusedSimpArgs false
set_option maxRecDepth 100000
theorem l05Layout_any (t : Tr) (s : Sh) (w : World) (h : TreS w s t) (hn : t.len ≤ 1000) :
    Calls Tryd.prog 48 #[.pointer (some ⟨s.root, 0, none⟩)] w (LayOfPost t w) := by
  obtain ⟨V, hV⟩ : ∃ V, ((w.alloc (.cells #[.slice none 0 0] 26)).alloc (.cells #[] 54)) = V := ⟨_, rfl⟩
  have hB : Below w.heap.size w V := by rw [← hV]; exact ((Below.refl _ _).alloc (Nat.le_refl _) _).alloc (by simp) _
  have hz : V.heap.size = w.heap.size + 2 := by rw [← hV]; simp
  have m0 : V.heap[w.heap.size]? = some (.cells #[.slice none 0 0] 26 (0, 0)) := by rw [← hV, Below.heap_alloc _ _ _ (by simp)]; exact heap_alloc_new w _
  have ho : V.ownsRow (w.heap.size + 1) 54 5 (.slice (some ⟨w.heap.size + 1, 0, none⟩) 0 0) 0 (partsV []) := by
    have := World.ownsRow_made (base := w.heap.size + 1) (e := 54) (size := 5) (w.alloc (.cells #[.slice none 0 0] 26)) #[] 0 (by simp) (Nat.zero_le _) rfl
    rw [World.size_alloc, hV] at this; exact this
  have HC := Lib.hid (l05Put_any t s V (w.heap.size + 1) _ _ 0 [] (h.congr fun b hb => hB.block b (h.lt b hb)) (fun b hb => by have := h.lt b hb; omega) (by omega) ho rfl (by omega))
  have HB := Lib.hid hB
  have HM0 := Lib.hid m0
  have HZ := Lib.hid hz
  clear h m0 hB ho hz
  subst hV
  go_enter Tryd.func48, Tryd.ntmps48
  go_wp2_with fail
  refine HC.out.mono ?_
  rintro e w1 ⟨g, cap, rfl, ho1, hb1⟩
  rw [Nat.zero_add] at ho1 ⊢
  have HB1 : Hid (Below w.heap.size w w1) := HB.out.trans (hb1.mono (by omega))
  have X0 := (hb1.block w.heap.size (by omega)).trans HM0.out
  have HCP := Lib.hid (own_cap5 ho1)
  have HMI : Hid (Mine (w.heap.size + 1) w1 (some ⟨g, 0, none⟩) (partsV ([] ++ t.parts 0))) := own_at ho1
  have x0 := box_cells X0 0
  have f0 := box_free X0 0
  simp only [List.getElem?_toArray, List.getElem?_cons_zero] at x0
  clear ho1 hb1 HC HM0 HB HZ X0
  go_wp2
  refine bodyPost_ret (v := .agg #[.slice (some ⟨g, 0, none⟩) t.len cap]) (by simp [results, Tryd.results48, x0, go_sem]) rfl ⟨_, cap, rfl, HCP.out, ?_, ?_⟩
  · exact (HMI.out.set_oth (by dsimp only; omega) _).mono (by omega)
  · exact HB1.out.setCell (by dsimp only; omega) _
theorem l05Own_any (ao : Option Addr) (len cap : Nat) (ps : List PartV) (hl : ps.length = len) (h0 : 0 < len) (hn : len ≤ 1000) (w : World) (ha : At w ao (partsV ps)) :
    Calls Tryd.prog 23 #[.agg #[.slice ao len cap]] w fun e w' => ∃ ao' cap', e = .returned (.agg #[.slice ao' len cap']) ∧ len ≤ cap' ∧ Mine w.heap.size w' ao' (partsV ps) ∧ Below w.heap.size w w' := by
  obtain ⟨i0, hi, iz0, iz1, iz2⟩ := info_parts Tryd.info_part
  have hne : partsV ps ≠ [] := by intro e; have := congrArg List.length e; rw [length_partsV] at this; simp at this; omega
  obtain ⟨b, off, rfl, hc⟩ := ha.get hne
  obtain ⟨V, hV⟩ : ∃ V, (((w.alloc (.cells #[.slice (some ⟨b, off, none⟩) len cap] 26)).alloc (.cells #[.slice none 0 0] 26)).alloc (.cells #[] 54)) = V := ⟨_, rfl⟩
  have hB : Below w.heap.size w V := by rw [← hV]; exact (((Below.refl _ _).alloc (Nat.le_refl _) _).alloc (by simp) _).alloc (by simp; omega) _
  have hz : V.heap.size = w.heap.size + 3 := by rw [← hV]; simp
  have m1 : V.heap[w.heap.size + 1]? = some (.cells #[.slice none 0 0] 26 (0, 0)) := by
    rw [← hV, Below.heap_alloc _ _ _ (by simp)]
    have := heap_alloc_new (w.alloc (.cells #[.slice (some ⟨b, off, none⟩) len cap] 26)) (.cells #[.slice none 0 0] 26)
    rw [World.size_alloc] at this; exact this
  have hbw : b < w.heap.size := World.block_lt_of_cell? w _ (hc 0 (by rw [length_partsV]; omega))
  have ho : V.ownsRow (w.heap.size + 2) 54 5 (.slice (some ⟨w.heap.size + 1 + 1, 0, none⟩) 0 0) 0 [] := by
    have := World.ownsRow_made (base := w.heap.size + 2) (e := 54) (size := 5) ((w.alloc (.cells #[.slice (some ⟨b, off, none⟩) len cap] 26)).alloc (.cells #[.slice none 0 0] 26)) #[] 0 (by simp) (Nat.zero_le _) rfl
    rw [World.size_alloc, World.size_alloc, hV] at this; exact this
  have HN : Hid (∀ j u, (partsV ps)[j]? = some u → V.cell? ((⟨b, off, none⟩ : Addr).add j) = some u) := fun j u hu => by
    obtain ⟨hj, hv⟩ := List.getElem?_eq_some_iff.1 hu
    have hadd : (⟨b, off, none⟩ : Addr).add j = ⟨b, off + j, none⟩ := by unfold Addr.add; split <;> simp_all
    rw [hadd, hB.cell (p := ⟨b, off + j, none⟩) hbw, hc j hj, hv]
  have HO := Lib.hid ho
  have HB := Lib.hid hB
  have HM1 := Lib.hid m1
  have HZ := Lib.hid hz
  have hzz : w.heap.size + 2 ≤ V.heap.size := by omega
  have HZZ := Lib.hid hzz
  have HPL : Hid ((partsV ps).length = len * 5) := by show _ = _; rw [length_partsV, hl]
  have hl0 : ¬ len = 0 := by omega
  clear ha hc hne m1 hB ho hz hzz
  subst hV
  go_enter Tryd.func23, Tryd.ntmps23
  go_wp2_with (at_builtin; (refine wpList_append_lies _ rfl (.tmp 3) (.tmp 5) 24 rfl (w.heap.size + 2) 54 i0 (.agg #[.int .i64 0, .bool false, .int .i64 0, .int .i64 0, .int .i64 0]) 5 40 Tryd.underlying24 hi iz0 iz1 iz2 rfl (by decide) (.slice (some ⟨w.heap.size + 1 + 1, 0, none⟩) 0 0) 0 [] rfl HO.out ⟨b, off, none⟩ len cap (partsV ps) rfl HPL.out HN.out (partsV_one _) h0 (by unfold maxLen; omega) (by omega) HZZ.out _ rfl ?_; intro g4 cap4 w4 hown4 hg4 hlie4 hlt4; have X1 := (hg4.block (w.heap.size + 1) (by rw [HZ.out]; omega) (by simp [Value.ownBlock])).trans HM1.out; have x1 := box_cells X1 0; have f1 := box_free X1 0; simp only [List.getElem?_toArray, List.getElem?_cons_zero] at x1))
  rw [Nat.zero_add] at hown4
  rw [List.nil_append] at hown4
  have HMI : Hid (Mine (w.heap.size + 2) w4 (some ⟨g4, 0, none⟩) (partsV ps)) := own_at hown4
  have HCP := Lib.hid (own_cap5 hown4)
  have HB4 : Hid (Below w.heap.size w w4) := HB.out.grown hg4 (by rw [HZ.out]; omega) (fun k hk => by simp [Value.ownBlock] at hk; omega)
  refine bodyPost_ret (v := .agg #[.slice (some ⟨g4, 0, none⟩) len cap4]) (by simp [results, Tryd.results23, x1, go_sem]) rfl ⟨_, cap4, rfl, HCP.out, ?_, ?_⟩
  · exact (HMI.out.set_oth (by dsimp only; omega) _).mono (by omega)
  · exact HB4.out.setCell (by dsimp only; omega) _
end Go.Proofs.YtaacccooidehlaaDoor
