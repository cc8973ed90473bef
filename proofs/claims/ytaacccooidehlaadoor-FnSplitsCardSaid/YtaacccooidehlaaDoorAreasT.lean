/-
  Contract of the reference's l05Areas at every tree, and of LayoutAreas of both. Conditions: the parts lie as the cells say, they are a tree.
-/
import Derived.Test.YtaacccooidehlaaDoorAreasS
import Derived.Deep.Onto
namespace Go.Proofs.YtaacccooidehlaaDoor
open Go.ChangeShapes Go.WideShapes Go.ChangeAt Go.RowKit
set_option linter.unusedVariables false
set_option linter.unusedSimpArgs false
set_option maxRecDepth 100000
theorem areasV_one (l : List AreaV) : ∀ u ∈ areasV l, u.oneCell' = true := by
  intro u hu
  simp only [areasV, List.mem_flatMap] at hu
  obtain ⟨a, _, hu⟩ := hu
  simp only [areaC, List.mem_cons, List.not_mem_nil, or_false] at hu
  rcases hu with rfl | rfl | rfl | rfl | rfl <;> rfl
theorem clampS_fits {rows : Bool} {size : Int} {l r : Tr} {a b : Int} (f : (Tr.node rows size l r).fits a b) (ha : a ≤ 1000) (hb : b ≤ 1000) : clampS size = size := by
  have ts := Tr.fits_size f
  unfold clampS
  cases rows <;> simp at ts <;> omega
/-- behind both parts' areas: the row that append gives -/
theorem areasS_join {rows : Bool} {size x y a b : Int} {l r : Tr} {w w3 w4 : World} {g1 cap1 g2 cap2 : Nat} (HB : Below w.heap.size w w3) (h1 : w.heap.size ≤ g1)
    (hown : w4.ownsRow w.heap.size 32 5 (.slice (some ⟨g2, 0, none⟩) (l.leaves + r.leaves) cap2) (l.leaves + r.leaves) (areasV (l.areas x y (lwOf rows size a) (lhOf rows size b)) ++ areasV (r.areas (rxOf rows size x) (ryOf rows size y) (rwOf rows size a) (rhOf rows size b))))
    (hg : w3.grownBy w4 (Value.slice (some ⟨g1, 0, none⟩) l.leaves cap1).ownBlock) : AreasS (.node rows size l r) x y a b w (.returned (.slice (some ⟨g2, 0, none⟩) (l.leaves + r.leaves) cap2)) w4 := by
  refine ⟨_, rfl, ?_, HB.grown hg HB.size (fun k hk => ?_)⟩
  · rw [← areasV_append] at hown
    exact hown
  · have : g1 = k := by simpa [Value.ownBlock] using hk
    omega
set_option maxHeartbeats 8000000 in
theorem l05Areas_any (ao : Option Addr) (len cap : Nat) (ps : List PartV) (hl : ps.length = len) (hn : len ≤ 2000000) : ∀ (t : Tr) (k : Nat) (x y a b M : Int) (w : World), At w ao (partsV ps) → PartsAt ps k t → t.fits a b → a ≤ 1000 → b ≤ 1000 → t.leaves ≤ 1000 →
    -M ≤ x → x ≤ M → -M ≤ y → y ≤ M → M + 1000 * t.len ≤ 1000000000 →
    Calls Tryd.prog 16 #[.agg #[.slice ao len cap], .int .i64 k, .int .i64 x, .int .i64 y, .int .i64 a, .int .i64 b] w (AreasS t x y a b w) := by
  intro t
  induction t with
  | leaf p =>
    intro k x y a b M w ha hp hf _ _ _ _ _ _ _ _
    exact l05Areas_leaf ao len cap ps hl k p x y a b w ha hp
  | node rows size l r ihl ihr =>
    intro k x y a b M w ha hp hf ha2 hb2 hlv x1 x2 y1 y2 hM
    obtain ⟨i0, hi, iz0, iz1, iz2⟩ := info_parts Tryd.info_area
    obtain ⟨h0, h1, h2⟩ := PartsAt.node.1 hp
    obtain ⟨kL, hkL⟩ : ∃ x : Int, ((k + 1 : Nat) : Int) = x := ⟨_, rfl⟩
    obtain ⟨kR, hkR⟩ : ∃ x : Int, ((k + 1 + l.len : Nat) : Int) = x := ⟨_, rfl⟩
    rw [hkL, hkR] at h0
    have HB : Below w.heap.size w (w.alloc (.cells #[.slice ao len cap] 26)) := (Below.refl _ _).alloc (Nat.le_refl _) _
    obtain ⟨blk, off, rfl, c0, c1, c2, c3, c4⟩ := At.part (ha.below HB (Nat.le_refl _)) h0
    have hk : k < len := by have := (List.getElem?_eq_some_iff.1 h0).1; omega
    have hle := h1.le
    have hre := h2.le
    have nl := l.len_pos
    have nr := r.len_pos
    simp only [Tr.leaves, Tr.len] at hlv hM
    have ts := Tr.fits_size hf
    have t2 := Tr.fits_two hf
    have hcs := clampS_fits hf ha2 hb2
    have i1 : (0 : Int) ≤ (k : Int) := by omega
    have i2 : (k : Int) < (len : Int) := by omega
    simp only at c0 c1 c2 c3 c4
    have hl0 : (kL == -1) = false := by simp; omega
    have HBV : Hid (Below w.heap.size w ((w.alloc (.cells #[.slice (some ⟨blk, off, none⟩) len cap] 26)).alloc (.cells #[.int .i64 0, .bool rows, .int .i64 size, .int .i64 kL, .int .i64 kR] 54))) := HB.alloc (by simp) _
    have HX0 : Hid (((w.alloc (.cells #[.slice (some ⟨blk, off, none⟩) len cap] 26)).alloc (.cells #[.int .i64 0, .bool rows, .int .i64 size, .int .i64 kL, .int .i64 kR] 54)).heap[w.heap.size]? = some (.cells #[.slice (some ⟨blk, off, none⟩) len cap] 26 (0, 0))) := by
      show _ = _
      rw [Below.heap_alloc _ _ _ (by simp)]; exact heap_alloc_new w _
    have HX1 : Hid (((w.alloc (.cells #[.slice (some ⟨blk, off, none⟩) len cap] 26)).alloc (.cells #[.int .i64 0, .bool rows, .int .i64 size, .int .i64 kL, .int .i64 kR] 54)).heap[w.heap.size + 1]? = some (.cells #[.int .i64 0, .bool rows, .int .i64 size, .int .i64 kL, .int .i64 kR] 54 (0, 0))) := by
      show _ = _
      have := heap_alloc_new (w.alloc (.cells #[.slice (some ⟨blk, off, none⟩) len cap] 26)) (.cells #[.int .i64 0, .bool rows, .int .i64 size, .int .i64 kL, .int .i64 kR] 54)
      rwa [World.size_alloc] at this
    obtain ⟨lw, hlw⟩ : ∃ x, lwOf rows size a = x := ⟨_, rfl⟩
    obtain ⟨lh, hlh⟩ : ∃ x, lhOf rows size b = x := ⟨_, rfl⟩
    obtain ⟨rw_, hrw⟩ : ∃ x, rwOf rows size a = x := ⟨_, rfl⟩
    obtain ⟨rh, hrh⟩ : ∃ x, rhOf rows size b = x := ⟨_, rfl⟩
    have bd : (0 ≤ lw ∧ lw ≤ 1000) ∧ (0 ≤ lh ∧ lh ≤ 1000) ∧ (0 ≤ rw_ ∧ rw_ ≤ 1000) ∧ (0 ≤ rh ∧ rh ≤ 1000) := by
      subst hlw hlh hrw hrh
      cases rows <;> simp [lwOf, lhOf, rwOf, rhOf] at ts ⊢ <;> omega
    obtain ⟨⟨d1, d2⟩, ⟨d3, d4⟩, ⟨d5, d6⟩, ⟨d7, d8⟩⟩ := bd
    have HCQ : Hid (∀ W, Calls Tryd.prog 34 #[.agg #[.int .i64 0, .bool rows, .int .i64 size, .int .i64 kL, .int .i64 kR], .int .i64 a, .int .i64 b] W (fun e w' => e = .returned (.tuple #[.int .i64 lw, .int .i64 lh, .int .i64 rw_, .int .i64 rh]) ∧ Below W.heap.size W w')) := fun W =>
      (l05Parts_any 0 rows size _ _ a b W (by omega) (by omega) (by omega) (by omega)).mono (by
        rintro e w' ⟨rfl, h⟩
        rw [hcs, hlw, hlh, hrw, hrh]
        exact ⟨rfl, h⟩)
    have HA := Lib.hid ha
    have HL : Hid (∀ (wx : World), At wx (some ⟨blk, off, none⟩) (partsV ps) → Calls Tryd.prog 16 #[.agg #[.slice (some ⟨blk, off, none⟩) len cap], .int .i64 kL, .int .i64 x, .int .i64 y, .int .i64 lw, .int .i64 lh] wx (AreasS l x y lw lh wx)) :=
      fun wx hat => by
        rw [← hkL]
        exact ihl (k + 1) x y lw lh (M + 1000) wx hat h1 (by rw [← hlw, ← hlh]; exact hf.1) d2 d4 (by omega) (by omega) (by omega) (by omega) (by omega) (by omega)
    have HR : Hid (∀ (wx : World) (x' y' : Int), -(M + 1000) ≤ x' → x' ≤ M + 1000 → -(M + 1000) ≤ y' → y' ≤ M + 1000 → At wx (some ⟨blk, off, none⟩) (partsV ps) → Calls Tryd.prog 16 #[.agg #[.slice (some ⟨blk, off, none⟩) len cap], .int .i64 kR, .int .i64 x', .int .i64 y', .int .i64 rw_, .int .i64 rh] wx (AreasS r x' y' rw_ rh wx)) :=
      fun wx x' y' c1 c2 c3 c4 hat => by
        rw [← hkR]
        exact ihr (k + 1 + l.len) x' y' rw_ rh (M + 1000) wx hat h2 (by rw [← hrw, ← hrh]; exact hf.2) d6 d8 (by omega) c1 c2 c3 c4 (by omega)
    have HJ : Hid (∀ (w3 w4 : World) (g1 cap1 g2 cap2 : Nat) (x' y' : Int), x' = rxOf rows size x → y' = ryOf rows size y → Below w.heap.size w w3 → w.heap.size ≤ g1 → w4.ownsRow w.heap.size 32 5 (.slice (some ⟨g2, 0, none⟩) (l.leaves + r.leaves) cap2) (l.leaves + r.leaves) (areasV (l.areas x y lw lh) ++ areasV (r.areas x' y' rw_ rh)) → w3.grownBy w4 (Value.slice (some ⟨g1, 0, none⟩) l.leaves cap1).ownBlock → AreasS (.node rows size l r) x y a b w (.returned (.slice (some ⟨g2, 0, none⟩) (l.leaves + r.leaves) cap2)) w4) :=
      fun w3 w4 g1 cap1 g2 cap2 x' y' e1 e2 k1 k2 k3 k4 => by
        subst e1 e2
        rw [← hlw, ← hlh, ← hrw, ← hrh] at k3
        exact areasS_join k1 k2 k3 k4
    have HLH : Hid (rows = true → lh = size) := fun h => by rw [← hlh, h]; rfl
    have HLW : Hid (rows = false → lw = size) := fun h => by rw [← hlw, h]; rfl
    have pL := l.leaves_pos
    have pR := r.leaves_pos
    clear hkL hkR hlw hlh hrw hrh hcs ihl ihr ha hp h0 h1 h2 hf hle hre nl nr hl
    cases hr : rows
    · rw [hr] at c1 HX0 HX1 HBV HCQ HJ HLH HLW
      clear hr ts
      go_enter Tryd.func16, Tryd.ntmps16
      go_wp2_with fail
      refine (HCQ.out _).mono ?_
      generalize ((w.alloc (.cells #[.slice (some ⟨blk, off, none⟩) len cap] 26)).alloc (.cells #[.int .i64 0, .bool false, .int .i64 size, .int .i64 kL, .int .i64 kR] 54)) = V at *
      clear c0 c1 c2 c3 c4 HCQ
      rintro e w1 ⟨rfl, hb1⟩
      have HB1 : Hid (Below w.heap.size w w1) := HBV.out.trans (hb1.mono HBV.out.size)
      have HX0' : Hid (w1.heap[w.heap.size]? = some (.cells #[.slice (some ⟨blk, off, none⟩) len cap] 26 (0, 0))) := (hb1.block _ (box_lt HX0.out)).trans HX0.out
      have HX1' : Hid (w1.heap[w.heap.size + 1]? = some (.cells #[.int .i64 0, .bool false, .int .i64 size, .int .i64 kL, .int .i64 kR] 54 (0, 0))) := (hb1.block _ (box_lt HX1.out)).trans HX1.out
      have x0 := box_cells HX0'.out 0
      have x3 := box_cells HX1'.out 3
      simp only [List.getElem?_toArray, List.getElem?_cons_zero, List.getElem?_cons_succ] at x0 x3
      clear hb1 HBV HX0 HX1
      go_wp2_with fail
      refine (HL.out _ (HA.out.below HB1.out (Nat.le_refl _))).mono ?_
      clear x0 x3
      rintro e w2 ⟨v1, rfl, hown1, hb2⟩
      obtain ⟨g1, cap1, rfl, hg1, hg1'⟩ := hown1.form l.leaves_pos
      have HB2 : Hid (Below w.heap.size w w2) := HB1.out.trans (hb2.mono HB1.out.size)
      have HX0'' : Hid (w2.heap[w.heap.size]? = some (.cells #[.slice (some ⟨blk, off, none⟩) len cap] 26 (0, 0))) := (hb2.block _ (box_lt HX0'.out)).trans HX0'.out
      have HX1'' : Hid (w2.heap[w.heap.size + 1]? = some (.cells #[.int .i64 0, .bool false, .int .i64 size, .int .i64 kL, .int .i64 kR] 54 (0, 0))) := (hb2.block _ (box_lt HX1'.out)).trans HX1'.out
      have hz1 : w.heap.size ≤ w1.heap.size := HB1.out.size
      have HO1 := Lib.hid (hown1.mono hz1)
      have x0 := box_cells HX0''.out 0
      have x1 := box_cells HX1''.out 1
      have x4 := box_cells HX1''.out 4
      simp only [List.getElem?_toArray, List.getElem?_cons_zero, List.getElem?_cons_succ] at x0 x1 x4
      have hz2 : w1.heap.size ≤ w2.heap.size := hb2.size
      clear hb2 HX0' HX1' HB1 hown1
      go_wp2_with fail
      refine (HR.out _ (x + lw) y (by omega) (by omega) (by omega) (by omega) (HA.out.below HB2.out (Nat.le_refl _))).mono ?_
      clear x0 x1 x4
      rintro e w3 ⟨v2, rfl, hown2, hb3⟩
      obtain ⟨g2, cap2, rfl, hg2, hg2'⟩ := hown2.form r.leaves_pos
      have HB3 : Hid (Below w.heap.size w w3) := HB2.out.trans (hb3.mono HB2.out.size)
      have HO3 := Lib.hid (HO1.out.kept (grownBy_of_below none hb3) (Or.inr (by simp [Value.ownBlock])))
      have hz3 : w2.heap.size ≤ w3.heap.size := hb3.size
      have HO2 := Lib.hid hown2
      clear hb3 HB2 HO1 HX0'' HX1'' hown2
      go_wp2_with (at_builtin; (refine wpList_append_lies _ rfl (.tmp 66) (.tmp 76) 28 rfl w.heap.size 32 i0 (.agg #[.int .i64 0, .int .i64 0, .int .i64 0, .int .i64 0, .int .i64 0]) 5 40 Tryd.underlying28 hi iz0 iz1 iz2 rfl (by decide) (.slice (some ⟨g1, 0, none⟩) l.leaves cap1) l.leaves (areasV (l.areas x y lw lh)) rfl HO3.out ⟨g2, 0, none⟩ r.leaves cap2 (areasV (r.areas (x + lw) y rw_ rh)) rfl (by rw [length_areasV, Tr.length_areas]) (HO2.out.cells rfl) (areasV_one _) pR (by unfold maxLen; omega) (by omega) (by omega) _ rfl ?_; intro g4 cap4 w4 hown4 hg4 hlie4 hlt4))
      go_ret
      exact HJ.out w3 w4 g1 cap1 g4 cap4 _ _ (by show x + lw = x + size; rw [HLW.out trivial]) rfl HB3.out (by omega) hown4 hg4
    · rw [hr] at c1 HX0 HX1 HBV HCQ HJ HLH HLW
      clear hr ts
      go_enter Tryd.func16, Tryd.ntmps16
      go_wp2_with fail
      refine (HCQ.out _).mono ?_
      generalize ((w.alloc (.cells #[.slice (some ⟨blk, off, none⟩) len cap] 26)).alloc (.cells #[.int .i64 0, .bool true, .int .i64 size, .int .i64 kL, .int .i64 kR] 54)) = V at *
      clear c0 c1 c2 c3 c4 HCQ
      rintro e w1 ⟨rfl, hb1⟩
      have HB1 : Hid (Below w.heap.size w w1) := HBV.out.trans (hb1.mono HBV.out.size)
      have HX0' : Hid (w1.heap[w.heap.size]? = some (.cells #[.slice (some ⟨blk, off, none⟩) len cap] 26 (0, 0))) := (hb1.block _ (box_lt HX0.out)).trans HX0.out
      have HX1' : Hid (w1.heap[w.heap.size + 1]? = some (.cells #[.int .i64 0, .bool true, .int .i64 size, .int .i64 kL, .int .i64 kR] 54 (0, 0))) := (hb1.block _ (box_lt HX1.out)).trans HX1.out
      have x0 := box_cells HX0'.out 0
      have x3 := box_cells HX1'.out 3
      simp only [List.getElem?_toArray, List.getElem?_cons_zero, List.getElem?_cons_succ] at x0 x3
      clear hb1 HBV HX0 HX1
      go_wp2_with fail
      refine (HL.out _ (HA.out.below HB1.out (Nat.le_refl _))).mono ?_
      clear x0 x3
      rintro e w2 ⟨v1, rfl, hown1, hb2⟩
      obtain ⟨g1, cap1, rfl, hg1, hg1'⟩ := hown1.form l.leaves_pos
      have HB2 : Hid (Below w.heap.size w w2) := HB1.out.trans (hb2.mono HB1.out.size)
      have HX0'' : Hid (w2.heap[w.heap.size]? = some (.cells #[.slice (some ⟨blk, off, none⟩) len cap] 26 (0, 0))) := (hb2.block _ (box_lt HX0'.out)).trans HX0'.out
      have HX1'' : Hid (w2.heap[w.heap.size + 1]? = some (.cells #[.int .i64 0, .bool true, .int .i64 size, .int .i64 kL, .int .i64 kR] 54 (0, 0))) := (hb2.block _ (box_lt HX1'.out)).trans HX1'.out
      have hz1 : w.heap.size ≤ w1.heap.size := HB1.out.size
      have HO1 := Lib.hid (hown1.mono hz1)
      have x0 := box_cells HX0''.out 0
      have x1 := box_cells HX1''.out 1
      have x4 := box_cells HX1''.out 4
      simp only [List.getElem?_toArray, List.getElem?_cons_zero, List.getElem?_cons_succ] at x0 x1 x4
      have hz2 : w1.heap.size ≤ w2.heap.size := hb2.size
      clear hb2 HX0' HX1' HB1 hown1
      go_wp2_with fail
      refine (HR.out _ x (y + lh) (by omega) (by omega) (by omega) (by omega) (HA.out.below HB2.out (Nat.le_refl _))).mono ?_
      clear x0 x1 x4
      rintro e w3 ⟨v2, rfl, hown2, hb3⟩
      obtain ⟨g2, cap2, rfl, hg2, hg2'⟩ := hown2.form r.leaves_pos
      have HB3 : Hid (Below w.heap.size w w3) := HB2.out.trans (hb3.mono HB2.out.size)
      have HO3 := Lib.hid (HO1.out.kept (grownBy_of_below none hb3) (Or.inr (by simp [Value.ownBlock])))
      have hz3 : w2.heap.size ≤ w3.heap.size := hb3.size
      have HO2 := Lib.hid hown2
      clear hb3 HB2 HO1 HX0'' HX1'' hown2
      go_wp2_with (at_builtin; (refine wpList_append_lies _ rfl (.tmp 54) (.tmp 64) 28 rfl w.heap.size 32 i0 (.agg #[.int .i64 0, .int .i64 0, .int .i64 0, .int .i64 0, .int .i64 0]) 5 40 Tryd.underlying28 hi iz0 iz1 iz2 rfl (by decide) (.slice (some ⟨g1, 0, none⟩) l.leaves cap1) l.leaves (areasV (l.areas x y lw lh)) rfl HO3.out ⟨g2, 0, none⟩ r.leaves cap2 (areasV (r.areas x (y + lh) rw_ rh)) rfl (by rw [length_areasV, Tr.length_areas]) (HO2.out.cells rfl) (areasV_one _) pR (by unfold maxLen; omega) (by omega) (by omega) _ rfl ?_; intro g4 cap4 w4 hown4 hg4 hlie4 hlt4))
      go_ret
      exact HJ.out w3 w4 g1 cap1 g4 cap4 _ _ rfl (by show y + lh = y + size; rw [HLH.out trivial]) HB3.out (by omega) hown4 hg4
end Go.Proofs.YtaacccooidehlaaDoor
