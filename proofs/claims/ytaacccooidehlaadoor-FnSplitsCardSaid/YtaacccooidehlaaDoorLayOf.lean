/-
  Contract of the given program's layoutOf: the parts of a tree. Conditions: the tree lies so.
-/
import Derived.Test.YtaacccooidehlaaDoorLayAdd
namespace Go.Proofs.YtaacccooidehlaaDoor
open Go.ChangeShapes Go.WideShapes Go.ChangeAt Go.RowKit
set_option linter.unusedVariables false
set_option linter.unusedSimpArgs false
set_option maxRecDepth 100000

theorem own_cap5 {base : Nat} {w : World} {e size : Nat} {ao : Option Addr} {n cap m : Nat} {xs : List Value} (h : w.ownsRow base e size (.slice ao m cap) n xs) : n ≤ cap := by
  rcases h.2 with ⟨h1, h2⟩ | ⟨g, c, cur, h1, _, _, h3, _⟩
  · omega
  · simp only [Value.slice.injEq] at h1
    obtain ⟨_, _, rfl⟩ := h1
    exact h3
def LayOfPost (t : Tr) (w : World) (e : Ending) (w' : World) : Prop :=
  ∃ ao cap, e = .returned (.agg #[.slice ao t.len cap]) ∧ t.len ≤ cap ∧ Mine w.heap.size w' ao (partsV (t.parts 0)) ∧ Below w.heap.size w w'
set_option maxHeartbeats 4000000 in
theorem layoutOf_any (t : Tr) (s : Sh) (w : World) (h : TreI w s t) (hp : t.okP) (hn : t.len ≤ 1000) :
    Calls Tryd.prog 20 #[.pointer (some ⟨s.root, 0, none⟩)] w (LayOfPost t w) := by
  have hn2 := heap_alloc_new ((w.alloc (.cells #[.slice none 0 0] 26)).alloc (.cells #[.slice none 0 0] 26)) (.cells #[.nilFunc] 78)
  rw [World.size_alloc, World.size_alloc] at hn2
  have w2 := box_cells hn2 0
  have f2 := box_free hn2 0
  obtain ⟨V, hV⟩ : ∃ V, (((w.alloc (.cells #[.slice none 0 0] 26)).alloc (.cells #[.slice none 0 0] 26)).alloc (.cells #[addF (w.heap.size + 1) (w.heap.size + 1 + 1)] 78)) = V := ⟨_, rfl⟩
  have hz : V.heap.size = w.heap.size + 3 := by rw [← hV]; simp
  have m2 : V.heap[w.heap.size + 1 + 1]? = some (.cells #[addF (w.heap.size + 1) (w.heap.size + 1 + 1)] 78 (0, 0)) := by
    have := heap_alloc_new ((w.alloc (.cells #[.slice none 0 0] 26)).alloc (.cells #[.slice none 0 0] 26)) (.cells #[addF (w.heap.size + 1) (w.heap.size + 1 + 1)] 78)
    rw [World.size_alloc, World.size_alloc, hV] at this; exact this
  have m1 : V.heap[w.heap.size + 1]? = some (.cells #[.slice none 0 0] 26 (0, 0)) := by
    rw [← hV, Below.heap_alloc _ _ _ (by simp)]
    have := heap_alloc_new (w.alloc (.cells #[.slice none 0 0] 26)) (.cells #[.slice none 0 0] 26)
    rw [World.size_alloc] at this; exact this
  have m0 : V.heap[w.heap.size]? = some (.cells #[.slice none 0 0] 26 (0, 0)) := by
    rw [← hV, Below.heap_alloc _ _ _ (by simp; omega), Below.heap_alloc _ _ _ (by simp)]
    exact heap_alloc_new w _
  have hBV : Below w.heap.size w V := by rw [← hV]; exact (((Below.refl _ _).alloc (Nat.le_refl _) _).alloc (by simp) _).alloc (by simp; omega) _
  have hA : Add (w.heap.size + 1) (w.heap.size + 1) (w.heap.size + 1 + 1) none 0 0 [] V := ⟨m1, m2, own_none _ _ _ _, Nat.le_refl _, by omega, rfl⟩
  have HC := Lib.hid (add_any t.len t s V (w.heap.size + 1) _ _ _ _ 0 [] (Nat.le_refl _) (h.congr fun b hb => hBV.block b (h.lt b hb)) hp hA (by omega) (fun b hb => by have := h.lt b hb; omega) (by omega))
  have a2 := box_cells m2 0
  simp only [List.getElem?_toArray, List.getElem?_cons_zero] at w2 a2
  have HBV := Lib.hid hBV
  have HM0 := Lib.hid m0
  have HZ := Lib.hid hz
  clear h hA m1 m0 hBV hn2 m2 hz
  unfold addF at a2 hV
  subst hV
  go_enter Tryd.func20, Tryd.ntmps20
  go_wp2_with fail
  refine HC.out.mono ?_
  rintro e w1 ⟨rfl, ⟨ao, cap, hA1⟩, hb1⟩
  have HB1 : Hid (Below w.heap.size w w1) := HBV.out.trans (hb1.mono (by omega))
  have X0 := (hb1.block w.heap.size (by omega)).trans HM0.out
  have hcap := own_cap5 hA1.own
  have HMI : Hid (Mine (w.heap.size + 1) w1 ao (partsV ([] ++ t.parts 0))) := own_at hA1.own
  have x0 := box_cells X0 0
  have f0 := box_free X0 0
  have x1 := box_cells hA1.hl 0
  simp only [List.getElem?_toArray, List.getElem?_cons_zero, Nat.zero_add] at x0 x1
  rw [Nat.zero_add] at hcap
  have HCP := Lib.hid hcap
  clear hA1 hb1 HC HM0 HBV a2 w2 f2 HZ X0 hcap
  go_wp2
  refine bodyPost_ret (v := .agg #[.slice ao t.len cap]) (by simp [results, Tryd.results20, x0, go_sem]) rfl ⟨ao, cap, rfl, HCP.out, ?_, ?_⟩
  · exact (HMI.out.set_oth (by dsimp only; omega) _).mono (by omega)
  · exact HB1.out.setCell (by dsimp only; omega) _
end Go.Proofs.YtaacccooidehlaaDoor
