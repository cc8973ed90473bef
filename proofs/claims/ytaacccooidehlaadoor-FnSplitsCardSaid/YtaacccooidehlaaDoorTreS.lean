/-
  The reference's trees in memory, and the contract of l05Of. Conditions: the parts lie as the cells say, they are a tree.
-/
import Derived.Test.YtaacccooidehlaaDoorLayWalk
import Derived.Deep.RegionHeld3
namespace Go.Proofs.YtaacccooidehlaaDoor
open Go.ChangeShapes Go.WideShapes Go.ChangeAt Go.RowKit
set_option linter.unusedVariables false
set_option linter.unusedSimpArgs false
set_option maxRecDepth 100000
/-- the cells of a part of the reference's trees -/
def treeLf (p : Int) : Array Value := #[.int .i64 p, .int .i64 0, .bool false, .bool true, .pointer none, .pointer none]
def treeNd (rows : Bool) (size : Int) (a b : Nat) : Array Value := #[.int .i64 0, .int .i64 size, .bool rows, .bool false, .pointer (some ⟨a, 0, none⟩), .pointer (some ⟨b, 0, none⟩)]
/-- a tree of the reference in memory -/
def TreS (w : World) (s : Sh) (t : Tr) : Prop := TreG treeLf treeNd 92 w s t
theorem Sh.nodup_mk {b : Nat} {l r : Sh} (h1 : b ∉ l.bs) (h2 : b ∉ r.bs) (h3 : l.bs.Nodup) (h4 : r.bs.Nodup) (h5 : ∀ x ∈ l.bs, x ∉ r.bs) : (Sh.nd b l r).bs.Nodup := by
  simp only [Sh.bs, List.nodup_cons, List.mem_append, not_or]
  exact ⟨⟨h1, h2⟩, List.nodup_append.2 ⟨h3, h4, fun a ha b hb e => h5 a ha (by rw [e]; exact hb)⟩⟩
/-- a new tree: its blocks are new, each one's own -/
def OfPost (t : Tr) (w : World) (e : Ending) (w' : World) : Prop :=
  ∃ s, e = .returned (.pointer (some ⟨s.root, 0, none⟩)) ∧ TreS w' s t ∧ s.bs.Nodup ∧ (∀ b ∈ s.bs, w.heap.size ≤ b) ∧ Below w.heap.size w w'
theorem of_join {rows : Bool} {size : Int} {l r : Tr} {w w0 w1 w2 : World} {s1 s2 : Sh} (hB0 : Below w.heap.size w w0) (ht1 : TreS w1 s1 l) (hn1 : s1.bs.Nodup) (hg1 : ∀ b ∈ s1.bs, w0.heap.size ≤ b) (hb1 : Below w0.heap.size w0 w1) (ht2 : TreS w2 s2 r) (hn2 : s2.bs.Nodup) (hg2 : ∀ b ∈ s2.bs, w1.heap.size ≤ b) (hb2 : Below w1.heap.size w1 w2) :
    OfPost (.node rows size l r) w (.returned (.pointer (some ⟨w2.heap.size, 0, none⟩))) (w2.alloc (.cells #[.int .i64 0, .int .i64 size, .bool rows, .bool false, .pointer (some ⟨s1.root, 0, none⟩), .pointer (some ⟨s2.root, 0, none⟩)] 92)) := by
  have z0 := hB0.size
  have z1 := hb1.size
  have z2 := hb2.size
  have t1 : TreS w2 s1 l := TreG.below ht1 hb2 (Nat.le_refl _)
  have hA : Below w2.heap.size w2 (w2.alloc (.cells #[.int .i64 0, .int .i64 size, .bool rows, .bool false, .pointer (some ⟨s1.root, 0, none⟩), .pointer (some ⟨s2.root, 0, none⟩)] 92)) := (Below.refl _ _).alloc (Nat.le_refl _) _
  refine ⟨.nd w2.heap.size s1 s2, rfl, ⟨heap_alloc_new w2 _, TreG.below t1 hA (Nat.le_refl _), TreG.below ht2 hA (Nat.le_refl _)⟩, Sh.nodup_mk (fun h => ?_) (fun h => ?_) hn1 hn2 (fun x h1 h2 => ?_), fun b hb => ?_, ((hB0.trans (hb1.mono z0)).trans (hb2.mono (by omega))).trans (hA.mono (by omega))⟩
  · have := TreG.lt t1 _ h; omega
  · have := TreG.lt ht2 _ h; omega
  · have := TreG.lt ht1 _ h1; have := hg2 _ h2; omega
  · simp only [Sh.bs, List.mem_cons, List.mem_append] at hb
    rcases hb with rfl | hb | hb
    · omega
    · have := hg1 _ hb; omega
    · have := hg2 _ hb; omega
set_option maxHeartbeats 4000000 in
theorem l05Of_any (ao : Option Addr) (len cap : Nat) (ps : List PartV) (hl : ps.length = len) (hn : len ≤ 2000000) : ∀ (t : Tr) (k : Nat) (w : World), At w ao (partsV ps) → PartsAt ps k t →
    Calls Tryd.prog 46 #[.agg #[.slice ao len cap], .int .i64 k] w (OfPost t w) := by
  intro t
  induction t with
  | leaf p =>
    intro k w ha hp
    have hp' := PartsAt.leaf.1 hp
    have HB : Below w.heap.size w (w.alloc (.cells #[.slice ao len cap] 26)) := (Below.refl _ _).alloc (Nat.le_refl _) _
    obtain ⟨blk, off, rfl, c0, c1, c2, c3, c4⟩ := At.part (ha.below HB (Nat.le_refl _)) hp'
    have hk : k < len := by have := (List.getElem?_eq_some_iff.1 hp').1; omega
    have i1 : (0 : Int) ≤ (k : Int) := by omega
    have i2 : (k : Int) < (len : Int) := by omega
    simp only at c0 c1 c2 c3 c4
    have HB2 : Hid (Below w.heap.size w ((w.alloc (.cells #[.slice (some ⟨blk, off, none⟩) len cap] 26)).alloc (.cells #[.int .i64 p, .bool false, .int .i64 0, .int .i64 (-1), .int .i64 (-1)] 54))) := HB.alloc (by simp) _
    clear ha hp hp' hl
    go_enter Tryd.func46, Tryd.ntmps46
    go_wp2
    go_ret
    have h := heap_alloc_new ((w.alloc (.cells #[.slice (some ⟨blk, off, none⟩) len cap] 26)).alloc (.cells #[.int .i64 p, .bool false, .int .i64 0, .int .i64 (-1), .int .i64 (-1)] 54)) (.cells #[.int .i64 p, .int .i64 0, .bool false, .bool true, .pointer none, .pointer none] 92)
    rw [World.size_alloc, World.size_alloc] at h
    exact ⟨.lf (w.heap.size + 2), rfl, h, by simp [Sh.bs], fun b hb => by simp only [Sh.bs, List.mem_singleton] at hb; omega, HB2.out.alloc HB2.out.size _⟩
  | node rows size l r ihl ihr =>
    intro k w ha hp
    obtain ⟨h0, h1, h2⟩ := PartsAt.node.1 hp
    obtain ⟨kL, hkL⟩ : ∃ x : Int, ((k + 1 : Nat) : Int) = x := ⟨_, rfl⟩
    obtain ⟨kR, hkR⟩ : ∃ x : Int, ((k + 1 + l.len : Nat) : Int) = x := ⟨_, rfl⟩
    rw [hkL, hkR] at h0
    have HB : Below w.heap.size w (w.alloc (.cells #[.slice ao len cap] 26)) := (Below.refl _ _).alloc (Nat.le_refl _) _
    obtain ⟨blk, off, rfl, c0, c1, c2, c3, c4⟩ := At.part (ha.below HB (Nat.le_refl _)) h0
    have hk : k < len := by have := (List.getElem?_eq_some_iff.1 h0).1; omega
    have i1 : (0 : Int) ≤ (k : Int) := by omega
    have i2 : (k : Int) < (len : Int) := by omega
    simp only at c0 c1 c2 c3 c4
    have hl0 : (kL == -1) = false := by simp; omega
    have HBV : Hid (Below w.heap.size w ((w.alloc (.cells #[.slice (some ⟨blk, off, none⟩) len cap] 26)).alloc (.cells #[.int .i64 0, .bool rows, .int .i64 size, .int .i64 kL, .int .i64 kR] 54))) := HB.alloc (by simp) _
    have HX0 : Hid (((w.alloc (.cells #[.slice (some ⟨blk, off, none⟩) len cap] 26)).alloc (.cells #[.int .i64 0, .bool rows, .int .i64 size, .int .i64 kL, .int .i64 kR] 54)).heap[w.heap.size]? = some (.cells #[.slice (some ⟨blk, off, none⟩) len cap] 26 (0, 0))) := by
      show _ = _
      rw [Below.heap_alloc _ _ _ (by simp)]; exact heap_alloc_new w _
    have HX1 : Hid (((w.alloc (.cells #[.slice (some ⟨blk, off, none⟩) len cap] 26)).alloc (.cells #[.int .i64 0, .bool rows, .int .i64 size, .int .i64 kL, .int .i64 kR] 54)).heap[w.heap.size + 1]? = some (.cells #[.int .i64 0, .bool rows, .int .i64 size, .int .i64 kL, .int .i64 kR] 54 (0, 0))) := by
      show _ = _
      have := heap_alloc_new (w.alloc (.cells #[.slice (some ⟨blk, off, none⟩) len cap] 26)) (.cells #[.int .i64 0, .bool rows, .int .i64 size, .int .i64 kL, .int .i64 kR] 54)
      rwa [World.size_alloc] at this
    have HL : Hid (∀ (wx : World), At wx (some ⟨blk, off, none⟩) (partsV ps) → Calls Tryd.prog 46 #[.agg #[.slice (some ⟨blk, off, none⟩) len cap], .int .i64 kL] wx (OfPost l wx)) := fun wx hat => by rw [← hkL]; exact ihl (k + 1) wx hat h1
    have HR : Hid (∀ (wx : World), At wx (some ⟨blk, off, none⟩) (partsV ps) → Calls Tryd.prog 46 #[.agg #[.slice (some ⟨blk, off, none⟩) len cap], .int .i64 kR] wx (OfPost r wx)) := fun wx hat => by rw [← hkR]; exact ihr (k + 1 + l.len) wx hat h2
    have HA := Lib.hid ha
    clear hkL hkR ihl ihr ha hp h0 h1 h2 hl
    go_enter Tryd.func46, Tryd.ntmps46
    go_wp2_with fail
    generalize ((w.alloc (.cells #[.slice (some ⟨blk, off, none⟩) len cap] 26)).alloc (.cells #[.int .i64 0, .bool rows, .int .i64 size, .int .i64 kL, .int .i64 kR] 54)) = V at *
    clear c0 c1 c2 c3 c4
    have x0 := box_cells HX0.out
    have y0 := box_cells HX1.out
    have xd : ∀ i, V.drew.cell? ⟨w.heap.size, i, none⟩ = (#[.slice (some ⟨blk, off, none⟩) len cap] : Array Value)[i]? := x0
    have yd : ∀ i, V.drew.cell? ⟨w.heap.size + 1, i, none⟩ = (#[.int .i64 0, .bool rows, .int .i64 size, .int .i64 kL, .int .i64 kR] : Array Value)[i]? := y0
    have hz0 : w.heap.size + 1 < V.heap.size := box_lt HX1.out
    have BV : Below w.heap.size w V := HBV.out
    go_region_held3 (fun w' => (∀ i, w'.cell? ⟨w.heap.size, i, none⟩ = (#[.slice (some ⟨blk, off, none⟩) len cap] : Array Value)[i]?) ∧ (∀ i, w'.cell? ⟨w.heap.size + 1, i, none⟩ = (#[.int .i64 0, .bool rows, .int .i64 size, .int .i64 kL, .int .i64 kR] : Array Value)[i]?)) (first | with_reducible exact ⟨x3, y3⟩ | with_reducible exact ⟨x2, y2⟩ | with_reducible exact ⟨x1, y1⟩ | exact ⟨xd, yd⟩ | fail)
      (first
      | (have _nd := hb1; go_at_call 46; refine (HR.out _ (HA.out.below B1 (Nat.le_refl _))).mono ?_; rintro e w2 ⟨s2, rfl, ht2, hn2, hg2, hb2⟩; have x2 := cells_below x1 hb2 (by omega); have y2 := cells_below y1 hb2 (by omega); have x3 := cells_alloc x2 (by have := hb2.size; omega) (.cells #[.int .i64 0, .int .i64 size, .bool rows, .bool false, .pointer (some ⟨s1.root, 0, none⟩), .pointer (some ⟨s2.root, 0, none⟩)] 92); have y3 := cells_alloc y2 (by have := hb2.size; omega) (.cells #[.int .i64 0, .int .i64 size, .bool rows, .bool false, .pointer (some ⟨s1.root, 0, none⟩), .pointer (some ⟨s2.root, 0, none⟩)] 92))
      | (go_at_call 46; refine (HL.out _ (HA.out.below BV.drew (Nat.le_refl _))).mono ?_; rintro e w1 ⟨s1, rfl, ht1, hn1, hg1, hb1⟩; have hz1 : V.heap.size ≤ w1.heap.size := hb1.size; have B1 : Below w.heap.size w w1 := BV.drew.trans (hb1.mono (by exact BV.size)); have x1 := cells_below (W := V.drew) x0 hb1 (by show _ < V.heap.size; omega); have y1 := cells_below (W := V.drew) y0 hb1 (by show _ < V.heap.size; omega))
      | fail)
    all_goals
      have HE := Lib.hid (of_join (rows := rows) (size := size) BV.drew ht1 hn1 hg1 hb1 ht2 hn2 hg2 hb2)
      clear x0 y0 xd yd x1 y1 x2 y2 x3 y3
      go_wp2
      go_ret
      exact HE.out
end Go.Proofs.YtaacccooidehlaaDoor
