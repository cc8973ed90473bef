/-
  Contract of the reference's l05Split. Conditions: the tree lies so, it is a layout's.
-/
import Derived.Test.YtaacccooidehlaaDoorTreKill
import Derived.Test.YtaacccooidehlaaDoorSplitP
import Derived.Deep.RegionHeld3
namespace Go.Proofs.YtaacccooidehlaaDoor
open Go.ChangeShapes Go.WideShapes Go.ChangeAt Go.RowKit
set_option linter.unusedVariables false
set_option linter.unusedSimpArgs false
set_option maxRecDepth 100000
def SplitT (s : Sh) (t : Tr) (p fr : Int) (rw_ : Bool) (a b : Int) (w w' : World) : Prop :=
  ∃ s', TreS w' s' (t.split p fr rw_ a b) ∧ s'.root = s.root ∧ s'.bs.Nodup ∧ (∀ x ∈ s'.bs, x ∈ s.bs ∨ w.heap.size ≤ x) ∧ Only s.bs w w'
def SplitS (s : Sh) (t : Tr) (p fr : Int) (rw_ : Bool) (a b : Int) (w : World) (e : Ending) (w' : World) : Prop :=
  e = .returned (.bool (decide (p ∈ t.panes))) ∧ SplitT s t p fr rw_ a b w w'
theorem splitT_leaf {w : World} {c : Nat} {q fr : Int} {rw_ : Bool} {a b : Int} (v : Int) (hc : w.heap[c]? = some (.cells (treeLf q) 92 (0, 0))) (hv : v = if rw_ then b / 2 else a / 2) :
    SplitT (.lf c) (.leaf q) q fr rw_ a b w ((((((((w.setCell ⟨c, 4, none⟩ (.pointer (some ⟨w.heap.size, 0, none⟩))).setCell ⟨c, 5, none⟩ (.pointer (some ⟨w.heap.size + 1, 0, none⟩))).setCell ⟨c, 3, none⟩ (.bool false)).setCell ⟨c, 0, none⟩ (.int .i64 0)).setCell ⟨c, 2, none⟩ (.bool rw_)).setCell ⟨c, 1, none⟩ (.int .i64 v)).alloc (.cells #[.int .i64 q, .int .i64 0, .bool false, .bool true, .pointer none, .pointer none] 92)).alloc (.cells #[.int .i64 fr, .int .i64 0, .bool false, .bool true, .pointer none, .pointer none] 92)) := by
  have hcw := box_lt hc
  have hX : ((((((w.setCell ⟨c, 4, none⟩ (.pointer (some ⟨w.heap.size, 0, none⟩))).setCell ⟨c, 5, none⟩ (.pointer (some ⟨w.heap.size + 1, 0, none⟩))).setCell ⟨c, 3, none⟩ (.bool false)).setCell ⟨c, 0, none⟩ (.int .i64 0)).setCell ⟨c, 2, none⟩ (.bool rw_)).setCell ⟨c, 1, none⟩ (.int .i64 v)).heap[c]? = some (.cells (treeNd rw_ v w.heap.size (w.heap.size + 1)) 92 (0, 0)) := set_heap (set_heap (set_heap (set_heap (set_heap (set_heap hc 4 _) 5 _) 3 _) 0 _) 2 _) 1 _
  have hO : Only [c] w ((((((w.setCell ⟨c, 4, none⟩ (.pointer (some ⟨w.heap.size, 0, none⟩))).setCell ⟨c, 5, none⟩ (.pointer (some ⟨w.heap.size + 1, 0, none⟩))).setCell ⟨c, 3, none⟩ (.bool false)).setCell ⟨c, 0, none⟩ (.int .i64 0)).setCell ⟨c, 2, none⟩ (.bool rw_)).setCell ⟨c, 1, none⟩ (.int .i64 v)) := ((((((Only.refl _ w).set (by simp) 4 _).set (by simp) 5 _).set (by simp) 3 _).set (by simp) 0 _).set (by simp) 2 _).set (by simp) 1 _
  have hz : ((((((w.setCell ⟨c, 4, none⟩ (.pointer (some ⟨w.heap.size, 0, none⟩))).setCell ⟨c, 5, none⟩ (.pointer (some ⟨w.heap.size + 1, 0, none⟩))).setCell ⟨c, 3, none⟩ (.bool false)).setCell ⟨c, 0, none⟩ (.int .i64 0)).setCell ⟨c, 2, none⟩ (.bool rw_)).setCell ⟨c, 1, none⟩ (.int .i64 v)).heap.size = w.heap.size := by simp [World.setCell]
  generalize ((((((w.setCell ⟨c, 4, none⟩ (.pointer (some ⟨w.heap.size, 0, none⟩))).setCell ⟨c, 5, none⟩ (.pointer (some ⟨w.heap.size + 1, 0, none⟩))).setCell ⟨c, 3, none⟩ (.bool false)).setCell ⟨c, 0, none⟩ (.int .i64 0)).setCell ⟨c, 2, none⟩ (.bool rw_)).setCell ⟨c, 1, none⟩ (.int .i64 v)) = X at *
  have n1 := heap_alloc_new X (.cells #[.int .i64 q, .int .i64 0, .bool false, .bool true, .pointer none, .pointer none] 92)
  have n2 := heap_alloc_new (X.alloc (.cells #[.int .i64 q, .int .i64 0, .bool false, .bool true, .pointer none, .pointer none] 92)) (.cells #[.int .i64 fr, .int .i64 0, .bool false, .bool true, .pointer none, .pointer none] 92)
  rw [World.size_alloc] at n2
  rw [hz] at n1 n2
  have hb : Below X.heap.size X ((X.alloc (.cells #[.int .i64 q, .int .i64 0, .bool false, .bool true, .pointer none, .pointer none] 92)).alloc (.cells #[.int .i64 fr, .int .i64 0, .bool false, .bool true, .pointer none, .pointer none] 92)) := ((Below.refl _ _).alloc (Nat.le_refl _) _).alloc (by simp) _
  have hs : (Tr.leaf q).split q fr rw_ a b = .node rw_ v (.leaf q) (.leaf fr) := by rw [hv]; simp [Tr.split]
  refine ⟨.nd c (.lf w.heap.size) (.lf (w.heap.size + 1)), ?_, rfl, ?_, fun x hx => ?_, ?_⟩
  · rw [hs]
    exact ⟨(hb.block c (by omega)).trans hX, (Below.heap_alloc _ _ _ (by simp; omega)).trans n1, n2⟩
  · simp only [Sh.bs, List.cons_append, List.nil_append, List.nodup_cons, List.mem_cons, List.not_mem_nil, or_false, not_or, List.nodup_nil, and_true, not_false_eq_true]
    omega
  · simp only [Sh.bs, List.cons_append, List.nil_append, List.mem_cons, List.not_mem_nil, or_false] at hx ⊢
    omega
  · exact (hO.mono (fun x hx => by simpa [Sh.bs] using hx)).trans (Only.of_below hb)
attribute [local irreducible] wpList
set_option maxHeartbeats 1000000 in
theorem l05Split_leaf (p fr : Int) (rw_ : Bool) (q : Int) (s : Sh) (w : World) (a b : Int) (h : TreS w s (.leaf q)) (ha1 : 2 ≤ a) (hb1 : 2 ≤ b) (ha : a ≤ 1000) (hb : b ≤ 1000) :
    Calls Tryd.prog 47 #[.pointer (some ⟨s.root, 0, none⟩), .int .i64 a, .int .i64 b, .int .i64 p, .int .i64 fr, .bool rw_] w (SplitS s (.leaf q) p fr rw_ a b w) := by
  obtain ⟨c, rfl, hc⟩ := TreG.leaf h
  have x := box_cells hc
  have fz := box_free hc
  have HC := Lib.hid hc
  unfold treeLf at x
  show Calls _ _ #[.pointer (some ⟨c, 0, none⟩), _, _, _, _, _] _ _
  by_cases e : q = p
  · have he : ((q : Int) != p) = false := by simp [e]
    subst e
    have HB : Hid (decide (q ∈ (Tr.leaf q).panes) = true) := by show _ = _; simp [Tr.panes]
    have hcw := box_lt hc
    have HA1 : Hid ((w.alloc (.cells #[.int .i64 q, .int .i64 0, .bool false, .bool true, .pointer none, .pointer none] 92)).heap[c]? = some (.cells #[.int .i64 q, .int .i64 0, .bool false, .bool true, .pointer none, .pointer none] 92 (0, 0))) := by show _ = _; rw [Below.heap_alloc _ _ _ hcw]; exact hc
    have HA2 : Hid ((((w.alloc (.cells #[.int .i64 q, .int .i64 0, .bool false, .bool true, .pointer none, .pointer none] 92)).setCell ⟨c, 4, none⟩ (.pointer (some ⟨w.heap.size, 0, none⟩))).alloc (.cells #[.int .i64 fr, .int .i64 0, .bool false, .bool true, .pointer none, .pointer none] 92)).heap[c]? = some (.cells #[.int .i64 q, .int .i64 0, .bool false, .bool true, .pointer (some ⟨w.heap.size, 0, none⟩), .pointer none] 92 (0, 0))) := by show _ = _; rw [Below.heap_alloc _ _ _ (by simp [World.setCell]; omega)]; exact set_heap HA1.out 4 _
    have HST : Hid (∀ v, v = (if rw_ then b / 2 else a / 2) → SplitT (.lf c) (.leaf q) q fr rw_ a b w ((((((((w.setCell ⟨c, 4, none⟩ (.pointer (some ⟨w.heap.size, 0, none⟩))).setCell ⟨c, 5, none⟩ (.pointer (some ⟨w.heap.size + 1, 0, none⟩))).setCell ⟨c, 3, none⟩ (.bool false)).setCell ⟨c, 0, none⟩ (.int .i64 0)).setCell ⟨c, 2, none⟩ (.bool rw_)).setCell ⟨c, 1, none⟩ (.int .i64 v)).alloc (.cells #[.int .i64 q, .int .i64 0, .bool false, .bool true, .pointer none, .pointer none] 92)).alloc (.cells #[.int .i64 fr, .int .i64 0, .bool false, .bool true, .pointer none, .pointer none] 92))) := fun v hv => splitT_leaf v hc hv
    have y1 := box_cells HA1.out
    have g1 := box_free HA1.out
    have y2 := box_cells HA2.out
    have g2 := box_free HA2.out
    clear h hc
    cases hr : rw_
    all_goals
      rw [hr] at HST
      clear hr
      go_enter Tryd.func47, Tryd.ntmps47
      go_wp2
      go_ret
      exact ⟨ret_bool HB.out.symm, HST.out _ (by simp)⟩
  · have he : ((q : Int) != p) = true := by simp [e]
    have HE : Hid (SplitS (.lf c) (.leaf q) p fr rw_ a b w (.returned (.bool false)) w) := ⟨ret_bool (by simp [Tr.panes]; exact fun h => e h.symm), .lf c, by rw [Tr.split_none (by simp [Tr.panes]; exact fun h => e h.symm)]; exact HC.out, rfl, by simp [Sh.bs], fun x hx => .inl hx, Only.refl _ _⟩
    clear h hc e
    go_enter Tryd.func47, Tryd.ntmps47
    go_wp2
    go_ret
    exact HE.out
theorem splitT_left {w w2 w3 : World} {c : Nat} {sl sr : Sh} {rows : Bool} {size : Int} {l r : Tr} {p fr : Int} {rw_ : Bool} {a b : Int} (hc : w.heap[c]? = some (.cells (treeNd rows size sl.root sr.root) 92 (0, 0))) (h1 : TreS w sl l) (h2 : TreS w sr r) (hn : (Sh.nd c sl sr).bs.Nodup) (hpr : p ∉ r.panes) (hB : Below w.heap.size w w2)
    (hs : SplitT sl l p fr rw_ (lwOf rows size a) (lhOf rows size b) w2 w3) : SplitT (.nd c sl sr) (.node rows size l r) p fr rw_ a b w w3 := by
  obtain ⟨n1, n2, n3, n4, n5⟩ := Sh.nodup hn
  obtain ⟨s', t1, t2, t3, t4, t5⟩ := hs
  have hz := hB.size
  have hl : ∀ x ∈ s'.bs, x ∈ sl.bs ∨ w.heap.size ≤ x := fun x hx => (t4 x hx).imp id (fun h => Nat.le_trans hz h)
  have hcw := box_lt hc
  refine ⟨.nd c s' sr, ?_, rfl, Sh.nodup_mk' (fun h => ?_) n2 t3 n4 (fun x hx h => ?_), fun x hx => ?_, ?_⟩
  · simp only [Tr.split, Tr.split_none hpr]
    refine ⟨?_, t1, TreG.only (TreG.below h2 hB (Nat.le_refl _)) t5 (fun b hb hm => n5 b hm hb)⟩
    rw [t2]
    exact (t5.block c (by omega) n1).trans ((hB.block c hcw).trans hc)
  · rcases hl c h with h | h
    · exact n1 h
    · omega
  · rcases hl x hx with h' | h'
    · exact n5 x h' h
    · have := TreG.lt h2 x h; omega
  · simp only [Sh.bs, List.mem_cons, List.mem_append] at hx ⊢
    rcases hx with rfl | hx | hx
    · exact .inl (.inl rfl)
    · rcases hl x hx with h | h
      · exact .inl (.inr (.inl h))
      · exact .inr h
    · exact .inl (.inr (.inr hx))
  · exact (Only.of_below hB).trans (t5.mono (fun x hx => by simp [Sh.bs, hx]))
theorem splitT_right {w w2 w3 w4 : World} {c : Nat} {sl sr : Sh} {rows : Bool} {size : Int} {l r : Tr} {p fr : Int} {rw_ : Bool} {a b : Int} (hc : w.heap[c]? = some (.cells (treeNd rows size sl.root sr.root) 92 (0, 0))) (h1 : TreS w sl l) (h2 : TreS w sr r) (hn : (Sh.nd c sl sr).bs.Nodup) (hpl : p ∉ l.panes) (hB : Below w.heap.size w w2)
    (hs : SplitT sl l p fr rw_ (lwOf rows size a) (lhOf rows size b) w2 w3) (hs2 : SplitT sr r p fr rw_ (rwOf rows size a) (rhOf rows size b) w3 w4) : SplitT (.nd c sl sr) (.node rows size l r) p fr rw_ a b w w4 := by
  obtain ⟨n1, n2, n3, n4, n5⟩ := Sh.nodup hn
  obtain ⟨s', t1, t2, t3, t4, t5⟩ := hs
  obtain ⟨s'', v1, v2, v3, v4, v5⟩ := hs2
  have hz := hB.size
  have hz3 := t5.size
  have hl : ∀ x ∈ s'.bs, x ∈ sl.bs ∨ w.heap.size ≤ x := fun x hx => (t4 x hx).imp id (fun h => Nat.le_trans hz h)
  have hr : ∀ x ∈ s''.bs, x ∈ sr.bs ∨ w3.heap.size ≤ x := v4
  have hcw := box_lt hc
  have hlt3 : ∀ x ∈ s'.bs, x < w3.heap.size := TreG.lt t1
  have hsr : ∀ x ∈ sr.bs, x < w.heap.size := TreG.lt h2
  have hap : ∀ x ∈ s'.bs, x ∉ sr.bs := fun x hx h => by
    rcases hl x hx with h' | h'
    · exact n5 x h' h
    · have := hsr x h; omega
  refine ⟨.nd c s' s'', ?_, rfl, Sh.nodup_mk' (fun h => ?_) (fun h => ?_) t3 v3 (fun x hx h => ?_), fun x hx => ?_, ?_⟩
  · rw [Tr.split_none hpl] at t1
    simp only [Tr.split, Tr.split_none hpl]
    refine ⟨?_, TreG.only t1 v5 hap, v1⟩
    rw [t2, v2]
    exact (v5.block c (by omega) n2).trans ((t5.block c (by omega) n1).trans ((hB.block c hcw).trans hc))
  · rcases hl c h with h | h
    · exact n1 h
    · omega
  · rcases hr c h with h | h
    · exact n2 h
    · omega
  · rcases hr x h with h' | h'
    · exact hap x hx h'
    · have := hlt3 x hx; omega
  · simp only [Sh.bs, List.mem_cons, List.mem_append] at hx ⊢
    rcases hx with rfl | hx | hx
    · exact .inl (.inl rfl)
    · rcases hl x hx with h | h
      · exact .inl (.inr (.inl h))
      · exact .inr h
    · rcases hr x hx with h | h
      · exact .inl (.inr (.inr h))
      · exact .inr (by omega)
  · exact ((Only.of_below hB).trans (t5.mono (fun x hx => by simp [Sh.bs, hx]))).trans (v5.mono (fun x hx => by simp [Sh.bs, hx]))
set_option maxHeartbeats 8000000 in
theorem l05Split_any (p fr : Int) (rw_ : Bool) : ∀ (t : Tr) (s : Sh) (w : World) (a b : Int), TreS w s t → s.bs.Nodup → t.panes.Nodup → t.fits a b → a ≤ 1000 → b ≤ 1000 →
    Calls Tryd.prog 47 #[.pointer (some ⟨s.root, 0, none⟩), .int .i64 a, .int .i64 b, .int .i64 p, .int .i64 fr, .bool rw_] w (SplitS s t p fr rw_ a b w) := by
  intro t
  induction t with
  | leaf q => intro s w a b h hn hpn hf ha hb; exact l05Split_leaf p fr rw_ q s w a b h hf.1 hf.2.1 ha hb
  | node rows size l r ihl ihr =>
    intro s w a b h hn hpn hf ha hb
    obtain ⟨c, sl, sr, rfl, hc, h1, h2⟩ := TreG.node h
    obtain ⟨n1, n2, n3, n4, n5⟩ := Sh.nodup hn
    simp only [Tr.panes] at hpn
    obtain ⟨q1, q2, q3⟩ := List.nodup_append.1 hpn
    have HL : Hid (∀ (wx : World) (a b : Int), TreS wx sl l → l.fits a b → a ≤ 1000 → b ≤ 1000 → Calls Tryd.prog 47 #[.pointer (some ⟨sl.root, 0, none⟩), .int .i64 a, .int .i64 b, .int .i64 p, .int .i64 fr, .bool rw_] wx (SplitS sl l p fr rw_ a b wx)) := fun wx a b ht hf h3 h4 => ihl sl wx a b ht n3 q1 hf h3 h4
    have HR : Hid (∀ (wx : World) (a b : Int), TreS wx sr r → r.fits a b → a ≤ 1000 → b ≤ 1000 → Calls Tryd.prog 47 #[.pointer (some ⟨sr.root, 0, none⟩), .int .i64 a, .int .i64 b, .int .i64 p, .int .i64 fr, .bool rw_] wx (SplitS sr r p fr rw_ a b wx)) := fun wx a b ht hf h3 h4 => ihr sr wx a b ht n4 q2 hf h3 h4
    have hcw := box_lt hc
    have x := box_cells hc
    unfold treeNd at x
    have HC := Lib.hid hc
    have H1 := Lib.hid h1
    have H2 := Lib.hid h2
    have HF := Lib.hid hf
    have HJ1 : Hid (∀ w2 w3, p ∈ l.panes → Below w.heap.size w w2 → SplitT sl l p fr rw_ (lwOf rows size a) (lhOf rows size b) w2 w3 → SplitS (.nd c sl sr) (.node rows size l r) p fr rw_ a b w (.returned (.bool true)) w3) := fun w2 w3 hp hB hs => ⟨ret_bool (by simp [Tr.panes, hp]), splitT_left hc h1 h2 hn (fun h' => q3 p hp p h' rfl) hB hs⟩
    have HJ2 : Hid (∀ w2 w3 w4 (br : Bool), p ∉ l.panes → decide (p ∈ r.panes) = br → Below w.heap.size w w2 → SplitT sl l p fr rw_ (lwOf rows size a) (lhOf rows size b) w2 w3 → SplitT sr r p fr rw_ (rwOf rows size a) (rhOf rows size b) w3 w4 → SplitS (.nd c sl sr) (.node rows size l r) p fr rw_ a b w (.returned (.bool br)) w4) := fun w2 w3 w4 br hp hbr hB hs hs2 => ⟨ret_bool (by rw [← hbr]; simp [Tr.panes, hp]), splitT_right hc h1 h2 hn hp hB hs hs2⟩
    show Calls _ _ #[.pointer (some ⟨c, 0, none⟩), _, _, _, _, _] _ _
    clear h h1 h2 ihl ihr hn hc hpn q1 q2 q3
    cases hr : rows
    · rw [hr] at hf HF x HC HJ1 HJ2
      clear hr
      have ts := Tr.fits_size hf
      have t2 := Tr.fits_two hf
      simp only [Bool.false_eq_true, if_false, if_true] at ts
      have hcl : clampS size = size := clampS_fits hf ha hb
      have HCP := Lib.hid (l05Parts_any 0 false size 0 0 a b w.drew (by omega) (by omega) (by omega) (by omega))
      rw [hcl] at HCP
      have x3 := x 3
      have xd : ∀ i, w.drew.cell? ⟨c, i, none⟩ = (#[.int .i64 0, .int .i64 size, .bool false, .bool false, .pointer (some ⟨sl.root, 0, none⟩), .pointer (some ⟨sr.root, 0, none⟩)] : Array Value)[i]? := x
      simp only [List.getElem?_toArray, List.getElem?_cons_zero, List.getElem?_cons_succ] at x3
      clear x hf hcl
      go_enter Tryd.func47, Tryd.ntmps47
      go_wp2_with fail
      go_region_held3 (fun w' => ∀ i, w'.cell? ⟨c, i, none⟩ = (#[.int .i64 0, .int .i64 size, .bool false, .bool false, .pointer (some ⟨sl.root, 0, none⟩), .pointer (some ⟨sr.root, 0, none⟩)] : Array Value)[i]?) (first | with_reducible exact x2 | exact xd | fail)
        (first
        | (go_at_call 34; refine HCP.out.mono ?_; rintro e W2 ⟨rfl, hb2⟩; have x2 := cells_below (W := w.drew) xd hb2 (by show c < w.heap.size; omega))
        | fail)
      all_goals
        rename_i hh
        clear hh x3 xd
        have hb2' : Below w.heap.size w W2 := ⟨hb2.os, hb2.tape, hb2.output, hb2.size, hb2.block⟩
        have HB2 := Lib.hid hb2'
        have HO2 : Hid (Only [] w W2) := Only.of_below hb2'
        have HT1 : Hid (TreS W2 sl l) := TreG.below H1.out hb2' (Nat.le_refl _)
        have HC2 : Hid (W2.heap[c]? = some (.cells (treeNd false size sl.root sr.root) 92 (0, 0))) := (hb2'.block c hcw).trans HC.out
        have hz2 : w.heap.size ≤ W2.heap.size := hb2'.size
        have HLC := Lib.hid (HL.out W2 size b HT1.out HF.out.1 (by omega) (by omega))
        clear hb2 hb2' HCP HL
        by_cases hpl : p ∈ l.panes
        · unfold SplitS at HLC
          rw [decide_eq_true hpl] at HLC
          have HPL := Lib.hid hpl
          clear hpl
          go_wp2_with fail
          refine HLC.out.mono ?_
          rintro e W3 ⟨rfl, hs3⟩
          have HE := Lib.hid (HJ1.out W2 W3 HPL.out HB2.out hs3)
          clear hs3 HLC x2
          go_wp2
          go_ret
          exact HE.out
        · unfold SplitS at HLC
          rw [decide_eq_false hpl] at HLC
          have HPL := Lib.hid hpl
          clear hpl
          go_wp2_with fail
          refine HLC.out.mono ?_
          rintro e W3 ⟨rfl, hs3⟩
          have HS3 := Lib.hid hs3
          obtain ⟨s3, t3, r3, n3', b3, ho3⟩ := hs3
          have HC3 : Hid (W3.heap[c]? = some (.cells (treeNd false size sl.root sr.root) 92 (0, 0))) := (ho3.block c (box_lt HC2.out) n1).trans HC2.out
          have HT3 : Hid (TreS W3 sr r) := TreG.only (TreG.below H2.out HB2.out (Nat.le_refl _)) ho3 (fun b hb hm => n5 b hm hb)
          have hz3 : W2.heap.size ≤ W3.heap.size := ho3.size
          have x3 := box_cells HC3.out
          unfold treeNd at x3
          obtain ⟨br, hbr⟩ : ∃ b, decide (p ∈ r.panes) = b := ⟨_, rfl⟩
          have HRC := Lib.hid (HR.out W3 (a - size) b HT3.out HF.out.2 (by omega) (by omega))
          unfold SplitS at HRC
          rw [hbr] at HRC
          have HBR := Lib.hid hbr
          clear t3 r3 n3' b3 ho3 x2 HLC HR hbr
          go_wp2_with fail
          refine HRC.out.mono ?_
          rintro e W4 ⟨rfl, hs4⟩
          have HE := Lib.hid (HJ2.out W2 W3 W4 br HPL.out HBR.out HB2.out HS3.out hs4)
          clear hs4 x3 HRC
          go_wp2
          go_ret
          exact HE.out
    · rw [hr] at hf HF x HC HJ1 HJ2
      clear hr
      have ts := Tr.fits_size hf
      have t2 := Tr.fits_two hf
      simp only [Bool.false_eq_true, if_false, if_true] at ts
      have hcl : clampS size = size := clampS_fits hf ha hb
      have HCP := Lib.hid (l05Parts_any 0 true size 0 0 a b w.drew (by omega) (by omega) (by omega) (by omega))
      rw [hcl] at HCP
      have x3 := x 3
      have xd : ∀ i, w.drew.cell? ⟨c, i, none⟩ = (#[.int .i64 0, .int .i64 size, .bool true, .bool false, .pointer (some ⟨sl.root, 0, none⟩), .pointer (some ⟨sr.root, 0, none⟩)] : Array Value)[i]? := x
      simp only [List.getElem?_toArray, List.getElem?_cons_zero, List.getElem?_cons_succ] at x3
      clear x hf hcl
      go_enter Tryd.func47, Tryd.ntmps47
      go_wp2_with fail
      go_region_held3 (fun w' => ∀ i, w'.cell? ⟨c, i, none⟩ = (#[.int .i64 0, .int .i64 size, .bool true, .bool false, .pointer (some ⟨sl.root, 0, none⟩), .pointer (some ⟨sr.root, 0, none⟩)] : Array Value)[i]?) (first | with_reducible exact x2 | exact xd | fail)
        (first
        | (go_at_call 34; refine HCP.out.mono ?_; rintro e W2 ⟨rfl, hb2⟩; have x2 := cells_below (W := w.drew) xd hb2 (by show c < w.heap.size; omega))
        | fail)
      all_goals
        rename_i hh
        clear hh x3 xd
        have hb2' : Below w.heap.size w W2 := ⟨hb2.os, hb2.tape, hb2.output, hb2.size, hb2.block⟩
        have HB2 := Lib.hid hb2'
        have HO2 : Hid (Only [] w W2) := Only.of_below hb2'
        have HT1 : Hid (TreS W2 sl l) := TreG.below H1.out hb2' (Nat.le_refl _)
        have HC2 : Hid (W2.heap[c]? = some (.cells (treeNd true size sl.root sr.root) 92 (0, 0))) := (hb2'.block c hcw).trans HC.out
        have hz2 : w.heap.size ≤ W2.heap.size := hb2'.size
        have HLC := Lib.hid (HL.out W2 a size HT1.out HF.out.1 (by omega) (by omega))
        clear hb2 hb2' HCP HL
        by_cases hpl : p ∈ l.panes
        · unfold SplitS at HLC
          rw [decide_eq_true hpl] at HLC
          have HPL := Lib.hid hpl
          clear hpl
          go_wp2_with fail
          refine HLC.out.mono ?_
          rintro e W3 ⟨rfl, hs3⟩
          have HE := Lib.hid (HJ1.out W2 W3 HPL.out HB2.out hs3)
          clear hs3 HLC x2
          go_wp2
          go_ret
          exact HE.out
        · unfold SplitS at HLC
          rw [decide_eq_false hpl] at HLC
          have HPL := Lib.hid hpl
          clear hpl
          go_wp2_with fail
          refine HLC.out.mono ?_
          rintro e W3 ⟨rfl, hs3⟩
          have HS3 := Lib.hid hs3
          obtain ⟨s3, t3, r3, n3', b3, ho3⟩ := hs3
          have HC3 : Hid (W3.heap[c]? = some (.cells (treeNd true size sl.root sr.root) 92 (0, 0))) := (ho3.block c (box_lt HC2.out) n1).trans HC2.out
          have HT3 : Hid (TreS W3 sr r) := TreG.only (TreG.below H2.out HB2.out (Nat.le_refl _)) ho3 (fun b hb hm => n5 b hm hb)
          have hz3 : W2.heap.size ≤ W3.heap.size := ho3.size
          have x3 := box_cells HC3.out
          unfold treeNd at x3
          obtain ⟨br, hbr⟩ : ∃ b, decide (p ∈ r.panes) = b := ⟨_, rfl⟩
          have HRC := Lib.hid (HR.out W3 a (b - size) HT3.out HF.out.2 (by omega) (by omega))
          unfold SplitS at HRC
          rw [hbr] at HRC
          have HBR := Lib.hid hbr
          clear t3 r3 n3' b3 ho3 x2 HLC HR hbr
          go_wp2_with fail
          refine HRC.out.mono ?_
          rintro e W4 ⟨rfl, hs4⟩
          have HE := Lib.hid (HJ2.out W2 W3 W4 br HPL.out HBR.out HB2.out HS3.out hs4)
          clear hs4 x3 HRC
          go_wp2
          go_ret
          exact HE.out
end Go.Proofs.YtaacccooidehlaaDoor
