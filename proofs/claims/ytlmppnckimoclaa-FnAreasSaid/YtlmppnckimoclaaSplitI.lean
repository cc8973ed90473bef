/-
  Contract of the given program's split. Conditions: the tree lies so, it is a layout.
-/
import Derived.Test.YtlmppnckimoclaaSplitP
import Derived.Test.YtlmppnckimoclaaAreasI
import Derived.Laws.EntriesVeiled
namespace Go.Proofs.Ytlmppnckimoclaa
open Go.ChangeShapes Go.WideShapes Go.ChangeAt Go.RowKit
set_option linter.unusedVariables false
set_option linter.unusedSimpArgs false
set_option maxRecDepth 100000
def paneIs (p : Int) (a : AreaV) : Bool := a.pane == p
theorem areas_find {p : Int} {t : Tr} {W H : Int} (hp : p ∈ t.panes) : ∃ j, ∃ h : j < (t.areas 0 0 W H).length, idxFrom (paneIs p) 0 (t.areas 0 0 W H) = ((j : Nat) : Int) ∧ ((t.areas 0 0 W H)[j]).pane = p := by
  have hx : ∃ a ∈ t.areas 0 0 W H, a.pane = p := by
    rw [← t.areas_panes 0 0 W H] at hp
    obtain ⟨a, ha, h⟩ := List.mem_map.1 hp
    exact ⟨a, ha, h⟩
  generalize t.areas 0 0 W H = l at *
  have key : ∀ (l : List AreaV) (k : Nat), (∃ a ∈ l, a.pane = p) → ∃ j, ∃ h : j < l.length, idxFrom (paneIs p) k l = ((k + j : Nat) : Int) ∧ (l[j]).pane = p := by
    intro l
    induction l with
    | nil => intro k h; obtain ⟨a, ha, _⟩ := h; cases ha
    | cons a l ih =>
      intro k h
      by_cases e : a.pane = p
      · exact ⟨0, by simp, by rw [idxFrom, if_pos (by simp [paneIs, e])]; simp, by simpa using e⟩
      · obtain ⟨j, hj, h1, h2⟩ := ih (k + 1) (by
          obtain ⟨b, hb, hb2⟩ := h
          rcases List.mem_cons.1 hb with rfl | hb
          · exact absurd hb2 e
          · exact ⟨b, hb, hb2⟩)
        exact ⟨j + 1, by simpa using hj, by rw [idxFrom, if_neg (by simp [paneIs, e]), h1]; congr 1; omega, by simpa using h2⟩
  obtain ⟨j, hj, h1, h2⟩ := key l 0 hx
  exact ⟨j, hj, by rw [h1, Nat.zero_add], h2⟩
theorem areas_any_pane (p : Int) (t : Tr) (W H : Int) : (t.areas 0 0 W H).any (paneIs p) = decide (p ∈ t.panes) := by
  rw [← t.areas_panes 0 0 W H, Bool.eq_iff_iff, List.any_eq_true, decide_eq_true_eq, List.mem_map]
  constructor
  · rintro ⟨a, ha, h⟩; exact ⟨a, ha, by simpa [paneIs] using h⟩
  · rintro ⟨a, ha, h⟩; exact ⟨a, ha, by simpa [paneIs] using h⟩
theorem areas_no_pane {p : Int} {t : Tr} {W H : Int} (hp : p ∉ t.panes) : idxFrom (paneIs p) 0 (t.areas 0 0 W H) = -1 := by
  refine idxFrom_none _ _ 0 fun a ha => ?_
  cases e : paneIs p a with
  | false => rfl
  | true => exact absurd (by rw [← t.areas_panes 0 0 W H]; exact List.mem_map.2 ⟨a, ha, by simpa [paneIs] using e⟩) hp
theorem whole_le {p : Int} {rw_ : Bool} : ∀ {t : Tr} {w h : Int}, t.fits w h → t.whole p rw_ w h ≤ (if rw_ then h else w)
  | .leaf q, w, h, f => by simp only [Tr.whole]; cases rw_ <;> simp
  | .node rows size l r, w, h, f => by
    have ts := Tr.fits_size f
    simp only [Tr.whole]
    split
    · have := whole_le (p := p) (rw_ := rw_) f.1
      cases rw_ <;> cases rows <;> simp [lwOf, lhOf] at this ts ⊢ <;> omega
    · have := whole_le (p := p) (rw_ := rw_) f.2
      cases rw_ <;> cases rows <;> simp [rwOf, rhOf] at this ts ⊢ <;> omega
theorem isPaneId_inB (p : Int) (w : World) : Calls Try.prog 40 #[.int .i64 p] w fun e w' => e = .returned (.bool (inB p 1 1000)) ∧ w = w' := isPaneId_any p w
theorem split_end {w w4 : World} {s : Sh} {t : Tr} {W H p fr : Int} {rw_ : Bool} {f : Nat} {u : Option Nat} (n : Nat) (q : Int) (hB : Below w.heap.size w w4) (h0 : TreI w s t) (h : TreI w4 s t) (hn : s.bs.Nodup) (hpn : t.panes.Nodup) (e : s.find t p = some (f, u)) (hq : t.whole p rw_ W H / 2 = q) :
    OpPost (t.split p fr rw_ W H) 0 s w (.returned (.int .i64 0)) ((((((((w4.drewN n).alloc (.cells #[.int .i64 p, .bool false, .int .i64 0, .pointer none, .pointer none] 73)).alloc (.cells #[.int .i64 fr, .bool false, .int .i64 0, .pointer none, .pointer none] 73)).setCell ⟨f, 0, none⟩ (.int .i64 0)).setCell ⟨f, 1, none⟩ (.bool rw_)).setCell ⟨f, 2, none⟩ (.int .i64 q)).setCell ⟨f, 3, none⟩ (.pointer (some ⟨w4.heap.size, 0, none⟩))).setCell ⟨f, 4, none⟩ (.pointer (some ⟨w4.heap.size + 1, 0, none⟩))) := by
  obtain ⟨hfh, hfm⟩ := find_heap h e
  have hfl := box_lt hfh
  obtain ⟨W2, hW2⟩ : ∃ W, (((w4.drewN n).alloc (.cells #[.int .i64 p, .bool false, .int .i64 0, .pointer none, .pointer none] 73)).alloc (.cells #[.int .i64 fr, .bool false, .int .i64 0, .pointer none, .pointer none] 73)) = W := ⟨_, rfl⟩
  have hz : W2.heap.size = w4.heap.size + 2 := by rw [← hW2]; simp
  have hf2 : W2.heap[f]? = some (.cells #[.int .i64 p, .bool false, .int .i64 0, .pointer none, .pointer none] 73 (0, 0)) := by
    rw [← hW2, Below.heap_alloc _ _ _ (by simp; omega), Below.heap_alloc _ _ _ (by simpa using hfl)]
    exact hfh
  have hk2 : ∀ k, k < w4.heap.size → W2.heap[k]? = w4.heap[k]? := fun k hk => by
    rw [← hW2, Below.heap_alloc _ _ _ (by simp; omega), Below.heap_alloc _ _ _ (by simpa using hk)]; rfl
  have hn1 : W2.heap[w4.heap.size]? = some (.cells (areaLf p) 73 (0, 0)) := by
    rw [← hW2, Below.heap_alloc _ _ _ (by simp)]
    exact heap_alloc_new (w4.drewN n) _
  have hn2 : W2.heap[w4.heap.size + 1]? = some (.cells (areaLf fr) 73 (0, 0)) := by
    have := heap_alloc_new ((w4.drewN n).alloc (.cells #[.int .i64 p, .bool false, .int .i64 0, .pointer none, .pointer none] 73)) (.cells #[.int .i64 fr, .bool false, .int .i64 0, .pointer none, .pointer none] 73)
    rw [World.size_alloc, hW2] at this; exact this
  rw [hW2]
  have ho := only_five W2 f (.int .i64 0) (.bool rw_) (.int .i64 q) (.pointer (some ⟨w4.heap.size, 0, none⟩)) (.pointer (some ⟨w4.heap.size + 1, 0, none⟩))
  have hx := set_five (o0 := .int .i64 0) (o1 := .bool rw_) (o2 := .int .i64 q) (o3 := .pointer (some ⟨w4.heap.size, 0, none⟩)) (o4 := .pointer (some ⟨w4.heap.size + 1, 0, none⟩)) hf2
  generalize (((((W2.setCell ⟨f, 0, none⟩ (.int .i64 0)).setCell ⟨f, 1, none⟩ (.bool rw_)).setCell ⟨f, 2, none⟩ (.int .i64 q)).setCell ⟨f, 3, none⟩ (.pointer (some ⟨w4.heap.size, 0, none⟩))).setCell ⟨f, 4, none⟩ (.pointer (some ⟨w4.heap.size + 1, 0, none⟩))) = X at *
  have hs : ∀ k ∈ s.bs, k < w4.heap.size := TreG.lt h
  obtain ⟨s', t1, t2⟩ := split_at (fresh := fr) (W := W) (H := H) (n1 := w4.heap.size) (n2 := w4.heap.size + 1) h hn hpn e (by rw [hq]; exact hx) ((ho.block _ (by omega) (by simp; omega)).trans hn1) ((ho.block _ (by omega) (by simp; omega)).trans hn2) (fun k hk hne => (ho.block k (by have := hs k hk; omega) (by simpa using hne)).trans (hk2 k (hs k hk)))
  refine ⟨rfl, ⟨s', t1, t2⟩, ?_⟩
  have h1 : Only s.bs w w4 := Only.of_below hB
  have h2 : Only s.bs w4 W2 := by
    refine ⟨by rw [← hW2]; rfl, by rw [← hW2]; rfl, by rw [← hW2]; rfl, by omega, fun k hk _ => hk2 k hk⟩
  exact (h1.trans h2).trans (ho.mono (fun x hx => by simp at hx; subst hx; exact hfm))
end Go.Proofs.Ytlmppnckimoclaa
