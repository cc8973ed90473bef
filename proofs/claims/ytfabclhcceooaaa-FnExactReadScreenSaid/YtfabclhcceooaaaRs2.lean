/-
  Contract of l04Read of the reference where the form is right. Conditions: those of the form.
-/
import Derived.Test.YtfabclhcceooaaaRsA
namespace Go.Proofs.Ytfabclhcceooaaa
open Go.ChangeShapes Go.WideShapes Go.ChangeAt Go.RowKit
set_option linter.unusedVariables false
set_option linter.unusedSimpArgs false
set_option maxRecDepth 100000
attribute [local irreducible] wpList

theorem rdJ_none {s : ByteArray} (h : fieldsF s = none) : rdJ s = none := by rw [rdJ, h]
theorem rdJ_few {s : ByteArray} {zs : List ByteArray} (h : fieldsF s = some zs) (hl : zs.length < 3) : rdJ s = none := by
  rw [rdJ, h]
  match zs, hl with
  | [], _ => rfl
  | [_], _ => rfl
  | [_, _], _ => rfl
theorem rdJ_size {s s0 s1 s2 : ByteArray} {rows : List ByteArray} (h : fieldsF s = some (s0 :: s1 :: s2 :: rows)) (hl : s0.size ≠ 27) : rdJ s = none := by
  rw [rdJ, h]; show (if s0.size = 27 then _ else none) = _; rw [if_neg hl]
theorem rdJ_hist {s s0 s1 s2 : ByteArray} {rows : List ByteArray} (h : fieldsF s = some (s0 :: s1 :: s2 :: rows)) (hH : fieldsF s2 = none) : rdJ s = none := by
  rw [rdJ, h]; show (if s0.size = 27 then _ else none) = _
  split
  · show (match fieldsF s2 with | some hs => _ | none => none) = _
    rw [hH]
  · rfl
theorem rdJ_main {s s0 s1 s2 : ByteArray} {rows hs : List ByteArray} {a0 a1 a2 a3 a4 a5 a6 a7 a8 : Int} (h : fieldsF s = some (s0 :: s1 :: s2 :: rows)) (hl : s0.size = 27) (hH : fieldsF s2 = some hs) (hn : readL 9 s0.data.toList = [a0, a1, a2, a3, a4, a5, a6, a7, a8]) :
    rdJ s = if sizeB a0 a1 = true ∧ rows.length = a1.toNat ∧ (∀ r ∈ rows, r.size = 4 * a0.toNat) then (if scrB a0 a1 a2 a3 a4 a5 a6 a7 a8 s1 (rowsU a0.toNat rows) hs = true then some (ScrD.mk a0 a1 a2 a3 a4 a5 a6 a7 a8 s1 (rowsU a0.toNat rows) hs) else none) else none := by
  rw [rdJ, h]; show (if s0.size = 27 then _ else none) = _
  rw [if_pos hl]
  show (match fieldsF s2 with | some hs => _ | none => none) = _
  rw [hH]
  show (scrOf (readL 9 s0.data.toList) s1 [] hs).bind _ = _
  rw [hn]
  rfl
theorem rowsU_take (W : Nat) (zs : List ByteArray) (k : Nat) (h : k < zs.length) : rowsU W (zs.take (k + 1)) = rowsU W (zs.take k) ++ unC W zs[k].data.toList := by
  unfold rowsU
  rw [List.take_succ_eq_append_getElem h, List.flatMap_append]
  show _ ++ (_ ++ []) = _
  rw [List.append_nil]
theorem set_cells {b c j : Nat} {W : World} {cs : Array Value} (h : ∀ i, W.cell? ⟨c, i, none⟩ = cs[i]?) (hne : c ≠ b) (v : Value) : ∀ i, (W.setCell ⟨b, j, none⟩ v).cell? ⟨c, i, none⟩ = cs[i]? := fun i =>
  (World.cell?_setCell_other W ⟨b, j, none⟩ ⟨c, i, none⟩ v (fun e => hne (by cases e; rfl))).trans (h i)
theorem set12_cells {b c : Nat} {W : World} {cs : Array Value} (h : ∀ i, W.cell? ⟨c, i, none⟩ = cs[i]?) (hne : c ≠ b) (v0 v1 v2 v3 v4 v5 v6 v7 v8 v9 v10 v11 : Value) :
    ∀ i, ((((((((((((W.setCell ⟨b, 0, none⟩ v0).setCell ⟨b, 1, none⟩ v1).setCell ⟨b, 2, none⟩ v2).setCell ⟨b, 3, none⟩ v3).setCell ⟨b, 4, none⟩ v4).setCell ⟨b, 5, none⟩ v5).setCell ⟨b, 6, none⟩ v6).setCell ⟨b, 7, none⟩ v7).setCell ⟨b, 8, none⟩ v8).setCell ⟨b, 9, none⟩ v9).setCell ⟨b, 10, none⟩ v10).setCell ⟨b, 11, none⟩ v11).cell? ⟨c, i, none⟩ = cs[i]? :=
  set_cells (set_cells (set_cells (set_cells (set_cells (set_cells (set_cells (set_cells (set_cells (set_cells (set_cells (set_cells h hne v0) hne v1) hne v2) hne v3) hne v4) hne v5) hne v6) hne v7) hne v8) hne v9) hne v10) hne v11


theorem rs_arm2 {h sb m cap nH cH Wn Hn : Nat} {wr V : World} {a2 a3 a4 a5 a6 a7 a8 u c : Int} {s1 : ByteArray} {aC aH : Option Addr} {xs : List Value}
    (gs : wr.heap[sb]? = some (.cells #[.int .i64 (Wn : Int), .int .i64 (Hn : Int), .int .i64 a2, .int .i64 a3, .int .i64 a4, .int .i64 a5, .int .i64 a6, .int .i64 a7, .int .i64 a8, .string s1, .slice aC m cap, .slice aH nH cH] 42)) (hown : wr.ownsRow h 76 2 (.slice aC m cap) m xs) (hoth : (Value.slice aC m cap).ownBlock ≠ some sb) (hB : Below h V wr) (hV : sb < V.heap.size) (hh : h ≤ sb) :
    ∀ (g2 cap2 : Nat) (w2 : World), w2.ownsRow h 76 2 (.slice (some ⟨g2, 0, none⟩) (m + 1) cap2) (m + 1) (xs ++ [.int .i64 u, .int .i64 c]) → (wr.alloc (.cells #[.int .i64 u, .int .i64 c] 76)).drew.grownBy w2 (Value.slice aC m cap).ownBlock → ((Value.slice aC m cap).ownBlock = some g2 ∨ g2 = (wr.alloc (.cells #[.int .i64 u, .int .i64 c] 76)).drew.heap.size) → ∃ w3, w2.setCell ⟨sb, 10, none⟩ (.slice (some ⟨g2, 0, none⟩) (m + 1) cap2) = w3 ∧ (∀ i, w2.cell? ⟨sb, i, none⟩ = (#[.int .i64 (Wn : Int), .int .i64 (Hn : Int), .int .i64 a2, .int .i64 a3, .int .i64 a4, .int .i64 a5, .int .i64 a6, .int .i64 a7, .int .i64 a8, .string s1, .slice aC m cap, .slice aH nH cH] : Array Value)[i]?) ∧ (∀ i, w2.frozen? ⟨sb, i, none⟩ = false) ∧ Hid (w3.heap[sb]? = some (.cells #[.int .i64 (Wn : Int), .int .i64 (Hn : Int), .int .i64 a2, .int .i64 a3, .int .i64 a4, .int .i64 a5, .int .i64 a6, .int .i64 a7, .int .i64 a8, .string s1, .slice (some ⟨g2, 0, none⟩) (m + 1) cap2, .slice aH nH cH] 42)) ∧ Hid (w3.ownsRow h 76 2 (.slice (some ⟨g2, 0, none⟩) (m + 1) cap2) (m + 1) (xs ++ [.int .i64 u, .int .i64 c])) ∧ Hid (m + 1 ≤ cap2) ∧ Hid (Below h V w3) ∧ V.heap.size ≤ w3.heap.size ∧ Hid ((Value.slice (some ⟨g2, 0, none⟩) (m + 1) cap2).ownBlock ≠ some sb) := by
  intro g2 cap2 w2 hown2 hgrow2 hlie
  have hz := hB.size
  have P2 := (hgrow2.block sb (by show sb < (wr.alloc _).heap.size; simp; omega) (fun h => hoth h.symm)).trans ((Below.heap_alloc wr _ sb (by omega)).trans gs)
  have hB2 : Below h V w2 := (hB.alloc (by omega) _).drew.grown hgrow2 (by show h ≤ (wr.alloc _).heap.size; simp; omega) (fun j hj => (hown.lt j hj).1)
  have hz2 : V.heap.size ≤ w2.heap.size := hB2.size
  have hc2 : m + 1 ≤ cap2 := own_cap hown2
  have hg2 : g2 ≠ sb := by
    rcases hlie with h | h
    · intro e; subst e; exact hoth h
    · have e : (wr.alloc (.cells #[.int .i64 u, .int .i64 c] 76)).drew.heap.size = wr.heap.size + 1 := by show (wr.alloc _).heap.size = _; simp
      rw [e] at h; omega
  have hot2 : (Value.slice (some ⟨g2, 0, none⟩) (m + 1) cap2).ownBlock ≠ some sb := by simp [Value.ownBlock]; exact hg2
  obtain ⟨w3, e3⟩ : ∃ W, w2.setCell ⟨sb, 10, none⟩ (.slice (some ⟨g2, 0, none⟩) (m + 1) cap2) = W := ⟨_, rfl⟩
  have P3 : w3.heap[sb]? = some (.cells #[.int .i64 (Wn : Int), .int .i64 (Hn : Int), .int .i64 a2, .int .i64 a3, .int .i64 a4, .int .i64 a5, .int .i64 a6, .int .i64 a7, .int .i64 a8, .string s1, .slice (some ⟨g2, 0, none⟩) (m + 1) cap2, .slice aH nH cH] 42) := by rw [← e3, heap_setCell_same w2 sb 10 _ _ _ P2]; simp
  refine ⟨w3, e3, box_cells P2, box_free P2, P3, ?_, hc2, ?_, ?_, hot2⟩
  · show World.ownsRow _ _ _ _ _ _ _; rw [← e3]; exact ownsRow_setCell_other hown2 (a := ⟨sb, 10, none⟩) hot2 _
  · show Below _ _ _; rw [← e3]; exact hB2.setCell (p := ⟨sb, 10, none⟩) hh _
  · rw [← e3]; simpa [World.setCell] using hz2

set_option maxHeartbeats 8000000 in
theorem l04Read_full (s s0 s1 s2 : ByteArray) (rows hs' : List ByteArray) (Wn Hn : Nat) (a2 a3 a4 a5 a6 a7 a8 : Int) (w : World) (hs : s.size ≤ 65536) (hF : fieldsF s = some (s0 :: s1 :: s2 :: rows)) (h27 : s0.size = 27) (hH : fieldsF s2 = some hs') (hns : readL 9 s0.data.toList = [(Wn : Int), (Hn : Int), a2, a3, a4, a5, a6, a7, a8]) (hZ : sizeB (Wn : Int) (Hn : Int) = true) (hrh : rows.length = Hn) :
    Calls Try.prog 74 #[.string s] w (RsPost w (rdJ s)) := by
  obtain ⟨c0, hci, hcz0, hcz1, hcz2⟩ := info_parts Try.info_cell
  have hb0 : Below w.heap.size w (w.alloc (.cells #[.int .i64 0, .int .i64 0, .int .i64 0, .int .i64 0, .int .i64 0, .int .i64 0, .int .i64 0, .int .i64 0, .int .i64 0, .string ⟨#[]⟩, .slice none 0 0, .slice none 0 0] 42)) := (Below.refl _ _).alloc (Nat.le_refl _) _
  have HR := Lib.hid (l02Read_any s (w.alloc (.cells #[.int .i64 0, .int .i64 0, .int .i64 0, .int .i64 0, .int .i64 0, .int .i64 0, .int .i64 0, .int .i64 0, .int .i64 0, .string ⟨#[]⟩, .slice none 0 0, .slice none 0 0] 42)) hs)
  have h60 := fieldsF_len hF
  rw [hF] at HR
  have hsz := fieldsF_each hF
  have z0 : s0.size ≤ 20000 := hsz s0 (by simp)
  have z1 : s1.size ≤ 20000 := hsz s1 (by simp)
  have z2 : s2.size ≤ 20000 := hsz s2 (by simp)
  have HRZ : Hid (∀ r ∈ rows, r.size ≤ 20000) := fun r hr => hsz r (by simp [hr])
  have hrl : rows.length ≤ 57 := by simp at h60; omega
  obtain ⟨R, hRl⟩ : ∃ R, rows.length = R := ⟨_, rfl⟩
  have HRL := Lib.hid hRl
  have HQ3 : Hid (s0.size = 3 * 9) := by show _ = _; omega
  have HH : Hid (∀ W : World, Calls Try.prog 100 #[.string s2] W fun e w' => ∃ ao n cap, e = .returned (.tuple #[.slice ao n cap, .bool (fieldsF s2).isSome]) ∧ (∀ xs, fieldsF s2 = some xs → xs.length = n ∧ Mine W.heap.size w' ao (strs xs)) ∧ Below W.heap.size W w') := fun W => l02Read_any s2 W (by omega)
  have HRD := Lib.hid (rdJ_main hF h27 hH hns)
  have HNS := Lib.hid hns
  have hz60 := fieldsF_len hH
  have HHZ := Lib.hid (fieldsF_each hH)
  rw [hH] at HH
  obtain ⟨q, hq⟩ : ∃ q, rdJ s = q := ⟨_, rfl⟩
  rw [hq] at HRD ⊢
  obtain ⟨b1', b2', b3', b4', _, _⟩ := size_facts hZ
  have hW1 : 2 ≤ Wn := by omega
  have hW2 : Wn ≤ 24 := by omega
  have hH1 : 2 ≤ Hn := by omega
  have hH2 : Hn ≤ 10 := by omega
  rw [show ((Wn : Nat) : Int).toNat = Wn from rfl, show ((Hn : Nat) : Int).toNat = Hn from rfl] at HRD
  have HSZ := Lib.hid hZ
  rw [hRl] at hrl
  have j1 : ((R : Int) + 3 != 3 + (Hn : Int)) = false := by simp; omega
  have j2 : (R : Int) + 3 = 3 + (Hn : Int) := by omega
  have jR1 : R ≤ Hn := by omega
  have jR2 : Hn ≤ R := by omega
  have HRH := Lib.hid hrh
  clear hF hRl hH hns hq hrh hZ b1' b2' b3' b4' h27 hsz h60
  go_enter Try.func74, Try.ntmps74
  go_wp2_with fail
  refine HR.out.mono ?_
  rintro e w1 ⟨p1, n1, c1, rfl, hx, hb1⟩
  obtain ⟨hn1, hm1⟩ := hx _ rfl
  obtain rfl : n1 = R + 3 := by have := HRL.out; simp at hn1; omega
  obtain ⟨b1, o1, rfl, hc⟩ := hm1.at.get (by simp [strs])
  have d0 : w1.cell? ⟨b1, o1, none⟩ = some (.string s0) := hc 0 (by simp [strs])
  have d1 : w1.cell? ⟨b1, o1 + 1, none⟩ = some (.string s1) := hc 1 (by simp [strs])
  have d2 : w1.cell? ⟨b1, o1 + 2, none⟩ = some (.string s2) := hc 2 (by simp [strs])
  have hbl : b1 < w1.heap.size := World.block_lt_of_cell? w1 _ d0
  have HROW : Hid (∀ j (hj : j < rows.length), w1.cell? ⟨b1, o1 + 3 + j, none⟩ = some (.string rows[j])) := fun j hj => by have := hc (3 + j) (by simp [strs]; omega); rw [show o1 + (3 + j) = o1 + 3 + j from by omega] at this; rw [this]; simp [strs, Nat.add_comm 3 j]
  have hz1 : w.heap.size + 1 ≤ w1.heap.size := by have := hb1.size; simpa using this
  have B1 : Below w.heap.size w w1 := hb0.trans (hb1.mono (by simp))
  have X1 := Lib.hid (box_below (box_new w (.cells #[.int .i64 0, .int .i64 0, .int .i64 0, .int .i64 0, .int .i64 0, .int .i64 0, .int .i64 0, .int .i64 0, .int .i64 0, .string ⟨#[]⟩, .slice none 0 0, .slice none 0 0] 42)) hb1 (by simp))
  have i0 : ¬ ((R : Int) + 3 < 3) := by omega
  have i11 : (1 : Int) < (R : Int) + 3 := by omega
  clear hx hm1 hn1 hc hb1
  go_wp2_with fail
  refine (l02ReadNumbers_any s0 9 w1 HQ3.out (by omega)).mono ?_
  rintro e w2 ⟨p2, c2, rfl, hm2, hb2⟩
  have hz2 := hb2.size
  have B2 : Below w.heap.size w w2 := B1.trans (hb2.mono (by omega))
  have X2 := Lib.hid (box_below X1.out hb2 (by omega))
  have e1 : w2.cell? ⟨b1, o1 + 1, none⟩ = some (.string s1) := (hb2.cell (p := ⟨b1, o1 + 1, none⟩) hbl).trans d1
  have e2 : w2.cell? ⟨b1, o1 + 2, none⟩ = some (.string s2) := (hb2.cell (p := ⟨b1, o1 + 2, none⟩) hbl).trans d2
  rw [HNS.out] at hm2
  obtain ⟨b2, o2, rfl, hc⟩ := hm2.at.get (by simp [i64s])
  have g0 : w2.cell? ⟨b2, o2, none⟩ = some (.int .i64 (Wn : Int)) := hc 0 (by simp [i64s])
  have g1 : w2.cell? ⟨b2, o2 + 1, none⟩ = some (.int .i64 (Hn : Int)) := hc 1 (by simp [i64s])
  have g2 : w2.cell? ⟨b2, o2 + 2, none⟩ = some (.int .i64 a2) := hc 2 (by simp [i64s])
  have g3 : w2.cell? ⟨b2, o2 + 3, none⟩ = some (.int .i64 a3) := hc 3 (by simp [i64s])
  have g4 : w2.cell? ⟨b2, o2 + 4, none⟩ = some (.int .i64 a4) := hc 4 (by simp [i64s])
  have g5 : w2.cell? ⟨b2, o2 + 5, none⟩ = some (.int .i64 a5) := hc 5 (by simp [i64s])
  have g6 : w2.cell? ⟨b2, o2 + 6, none⟩ = some (.int .i64 a6) := hc 6 (by simp [i64s])
  have g7 : w2.cell? ⟨b2, o2 + 7, none⟩ = some (.int .i64 a7) := hc 7 (by simp [i64s])
  have g8 : w2.cell? ⟨b2, o2 + 8, none⟩ = some (.int .i64 a8) := hc 8 (by simp [i64s])
  have hb2l : b2 < w2.heap.size := World.block_lt_of_cell? w2 _ g0
  clear hc hm2 d0 d1 d2
  go_wp2_with fail
  refine (HH.out w2).mono ?_
  rintro e w3 ⟨aH, nH, cH, rfl, hx3, hb3⟩
  have hz3 := hb3.size
  have B3 : Below w.heap.size w w3 := B2.trans (hb3.mono (by omega))
  have X3 := Lib.hid (box_below X2.out hb3 (by omega))
  obtain ⟨hn3, hm3⟩ := hx3 _ rfl
  have HM3 := Lib.hid hm3
  have HNH := Lib.hid hn3
  have k0 : w3.cell? ⟨b2, o2, none⟩ = some (.int .i64 (Wn : Int)) := (hb3.cell (p := ⟨b2, o2, none⟩) hb2l).trans g0
  have k1 : w3.cell? ⟨b2, o2 + 1, none⟩ = some (.int .i64 (Hn : Int)) := (hb3.cell (p := ⟨b2, o2 + 1, none⟩) hb2l).trans g1
  have k2 : w3.cell? ⟨b2, o2 + 2, none⟩ = some (.int .i64 a2) := (hb3.cell (p := ⟨b2, o2 + 2, none⟩) hb2l).trans g2
  have k3 : w3.cell? ⟨b2, o2 + 3, none⟩ = some (.int .i64 a3) := (hb3.cell (p := ⟨b2, o2 + 3, none⟩) hb2l).trans g3
  have k4 : w3.cell? ⟨b2, o2 + 4, none⟩ = some (.int .i64 a4) := (hb3.cell (p := ⟨b2, o2 + 4, none⟩) hb2l).trans g4
  have k5 : w3.cell? ⟨b2, o2 + 5, none⟩ = some (.int .i64 a5) := (hb3.cell (p := ⟨b2, o2 + 5, none⟩) hb2l).trans g5
  have k6 : w3.cell? ⟨b2, o2 + 6, none⟩ = some (.int .i64 a6) := (hb3.cell (p := ⟨b2, o2 + 6, none⟩) hb2l).trans g6
  have k7 : w3.cell? ⟨b2, o2 + 7, none⟩ = some (.int .i64 a7) := (hb3.cell (p := ⟨b2, o2 + 7, none⟩) hb2l).trans g7
  have k8 : w3.cell? ⟨b2, o2 + 8, none⟩ = some (.int .i64 a8) := (hb3.cell (p := ⟨b2, o2 + 8, none⟩) hb2l).trans g8
  have k9 : w3.cell? ⟨b1, o1 + 1, none⟩ = some (.string s1) := (hb3.cell (p := ⟨b1, o1 + 1, none⟩) (show b1 < w2.heap.size by omega)).trans e1
  have HROW3 : Hid (∀ j (hj : j < rows.length), w3.cell? ⟨b1, o1 + 3 + j, none⟩ = some (.string rows[j])) := fun j hj => (hb3.cell (p := ⟨b1, o1 + 3 + j, none⟩) (show b1 < w2.heap.size by omega)).trans ((hb2.cell (p := ⟨b1, o1 + 3 + j, none⟩) hbl).trans (HROW.out j hj))
  have hb1l : b1 < w3.heap.size := by omega
  have hb2l3 : b2 < w3.heap.size := by omega
  clear hx3 hn3 hm3 hb2 hb3 e1 e2 HROW B1 B2 X1 X2 g0 g1 g2 g3 g4 g5 g6 g7 g8
  have HSZ2 : Hid (∀ W : World, Calls Try.prog 54 #[.int .i64 (Wn : Int), .int .i64 (Hn : Int)] W fun e w' => e = .returned (.bool true) ∧ W = w') := fun W => by have h := l04Size_any (Wn : Int) (Hn : Int) W; rw [HSZ.out] at h; exact h
  go_wp2_with fail
  go_quiet (first | (go_at_call 54; exact quiet_eq (HSZ2.out _)) | fail)
  have hb4w : Below w3.heap.size w3 (w3.drewN nq) := below_drewN nq (Below.refl _ _)
  generalize w3.drewN nq = w4 at *
  have hz4 := hb4w.size
  have B4 : Below w.heap.size w w4 := B3.trans (hb4w.mono (by omega))
  have X4 := Lib.hid (box_below X3.out hb4w (by omega))
  clear j1 j2
  have m0 : w4.cell? ⟨b2, o2, none⟩ = some (.int .i64 (Wn : Int)) := (hb4w.cell (p := ⟨b2, o2, none⟩) hb2l3).trans k0
  have m1 : w4.cell? ⟨b2, o2 + 1, none⟩ = some (.int .i64 (Hn : Int)) := (hb4w.cell (p := ⟨b2, o2 + 1, none⟩) hb2l3).trans k1
  have m2 : w4.cell? ⟨b2, o2 + 2, none⟩ = some (.int .i64 a2) := (hb4w.cell (p := ⟨b2, o2 + 2, none⟩) hb2l3).trans k2
  have m3 : w4.cell? ⟨b2, o2 + 3, none⟩ = some (.int .i64 a3) := (hb4w.cell (p := ⟨b2, o2 + 3, none⟩) hb2l3).trans k3
  have m4 : w4.cell? ⟨b2, o2 + 4, none⟩ = some (.int .i64 a4) := (hb4w.cell (p := ⟨b2, o2 + 4, none⟩) hb2l3).trans k4
  have m5 : w4.cell? ⟨b2, o2 + 5, none⟩ = some (.int .i64 a5) := (hb4w.cell (p := ⟨b2, o2 + 5, none⟩) hb2l3).trans k5
  have m6 : w4.cell? ⟨b2, o2 + 6, none⟩ = some (.int .i64 a6) := (hb4w.cell (p := ⟨b2, o2 + 6, none⟩) hb2l3).trans k6
  have m7 : w4.cell? ⟨b2, o2 + 7, none⟩ = some (.int .i64 a7) := (hb4w.cell (p := ⟨b2, o2 + 7, none⟩) hb2l3).trans k7
  have m8 : w4.cell? ⟨b2, o2 + 8, none⟩ = some (.int .i64 a8) := (hb4w.cell (p := ⟨b2, o2 + 8, none⟩) hb2l3).trans k8
  have m9 : w4.cell? ⟨b1, o1 + 1, none⟩ = some (.string s1) := (hb4w.cell (p := ⟨b1, o1 + 1, none⟩) hb1l).trans k9
  have HM4 := Lib.hid (HM3.out.below hb4w (Nat.le_refl _))
  have HROW4 : Hid (∀ j (hj : j < rows.length), w4.cell? ⟨b1, o1 + 3 + j, none⟩ = some (.string rows[j])) := fun j hj => (hb4w.cell (p := ⟨b1, o1 + 3 + j, none⟩) hb1l).trans (HROW3.out j hj)
  have hb1l4 : b1 < w4.heap.size := by omega
  clear k0 k1 k2 k3 k4 k5 k6 k7 k8 k9 HM3 HROW3 hb4w X3 B3
  go_wp2_with fail
  have ne0 := World.new_ne w4 _ m0
  have ne1 := World.new_ne w4 _ m1
  have ne2 := World.new_ne w4 _ m2
  have ne3 := World.new_ne w4 _ m3
  have ne4 := World.new_ne w4 _ m4
  have ne5 := World.new_ne w4 _ m5
  have ne6 := World.new_ne w4 _ m6
  have ne7 := World.new_ne w4 _ m7
  have ne8 := World.new_ne w4 _ m8
  have ne9 := World.new_ne w4 _ m9
  go_region_held3 (fun w' => w'.cell? ⟨b2, o2, none⟩ = some (.int .i64 (Wn : Int)) ∧ w'.cell? ⟨b2, o2 + 1, none⟩ = some (.int .i64 (Hn : Int)) ∧ w'.cell? ⟨b2, o2 + 2, none⟩ = some (.int .i64 a2) ∧ w'.cell? ⟨b2, o2 + 3, none⟩ = some (.int .i64 a3) ∧ w'.cell? ⟨b2, o2 + 4, none⟩ = some (.int .i64 a4) ∧ w'.cell? ⟨b2, o2 + 5, none⟩ = some (.int .i64 a5) ∧ w'.cell? ⟨b2, o2 + 6, none⟩ = some (.int .i64 a6) ∧ w'.cell? ⟨b2, o2 + 7, none⟩ = some (.int .i64 a7) ∧ w'.cell? ⟨b2, o2 + 8, none⟩ = some (.int .i64 a8) ∧ w'.cell? ⟨b1, o1 + 1, none⟩ = some (.string s1)) (go_keep) (fail)
  ·
    rename_i hheld
    clear hheld
    have hhV : Below w4.heap.size w4 ((w4.alloc (.cells #[] 76)).alloc (.cells #[.int .i64 (Wn : Int), .int .i64 (Hn : Int), .int .i64 a2, .int .i64 a3, .int .i64 a4, .int .i64 a5, .int .i64 a6, .int .i64 a7, .int .i64 a8, .string s1, .slice (some ⟨w4.heap.size, 0, none⟩) 0 0, .slice aH nH cH] 42)).drew := (((Below.refl _ _).alloc (Nat.le_refl _) _).alloc (by simp) _).drew
    have X5 : Hid (((w4.alloc (.cells #[] 76)).alloc (.cells #[.int .i64 (Wn : Int), .int .i64 (Hn : Int), .int .i64 a2, .int .i64 a3, .int .i64 a4, .int .i64 a5, .int .i64 a6, .int .i64 a7, .int .i64 a8, .string s1, .slice (some ⟨w4.heap.size, 0, none⟩) 0 0, .slice aH nH cH] 42)).drew.heap[w.heap.size]? = some (.cells #[.int .i64 0, .int .i64 0, .int .i64 0, .int .i64 0, .int .i64 0, .int .i64 0, .int .i64 0, .int .i64 0, .int .i64 0, .string ⟨#[]⟩, .slice none 0 0, .slice none 0 0] 42)) := box_below X4.out hhV (by omega)
    have hs1 : (w4.alloc (.cells #[] 76)).heap.size = w4.heap.size + 1 := by simp
    have Y5 : Hid (((w4.alloc (.cells #[] 76)).alloc (.cells #[.int .i64 (Wn : Int), .int .i64 (Hn : Int), .int .i64 a2, .int .i64 a3, .int .i64 a4, .int .i64 a5, .int .i64 a6, .int .i64 a7, .int .i64 a8, .string s1, .slice (some ⟨w4.heap.size, 0, none⟩) 0 0, .slice aH nH cH] 42)).drew.heap[(w4.heap.size + 1)]? = some (.cells #[.int .i64 (Wn : Int), .int .i64 (Hn : Int), .int .i64 a2, .int .i64 a3, .int .i64 a4, .int .i64 a5, .int .i64 a6, .int .i64 a7, .int .i64 a8, .string s1, .slice (some ⟨w4.heap.size, 0, none⟩) 0 0, .slice aH nH cH] 42)) := by have h := box_new (w4.alloc (.cells #[] 76)) (.cells #[.int .i64 (Wn : Int), .int .i64 (Hn : Int), .int .i64 a2, .int .i64 a3, .int .i64 a4, .int .i64 a5, .int .i64 a6, .int .i64 a7, .int .i64 a8, .string s1, .slice (some ⟨w4.heap.size, 0, none⟩) 0 0, .slice aH nH cH] 42); rw [hs1] at h; exact h
    have HOW : Hid (((w4.alloc (.cells #[] 76)).alloc (.cells #[.int .i64 (Wn : Int), .int .i64 (Hn : Int), .int .i64 a2, .int .i64 a3, .int .i64 a4, .int .i64 a5, .int .i64 a6, .int .i64 a7, .int .i64 a8, .string s1, .slice (some ⟨w4.heap.size, 0, none⟩) 0 0, .slice aH nH cH] 42)).drew.ownsRow w4.heap.size 76 2 (.slice (some ⟨w4.heap.size, 0, none⟩) 0 0) 0 (cellsV (rowsU Wn (rows.take 0)))) := ((World.ownsRow_made (base := w4.heap.size) (e := 76) (size := 2) w4 #[] 0 (Nat.le_refl _) (Nat.zero_le _) rfl).alloc _).drew
    have hzV : w4.heap.size + 2 ≤ ((w4.alloc (.cells #[] 76)).alloc (.cells #[.int .i64 (Wn : Int), .int .i64 (Hn : Int), .int .i64 a2, .int .i64 a3, .int .i64 a4, .int .i64 a5, .int .i64 a6, .int .i64 a7, .int .i64 a8, .string s1, .slice (some ⟨w4.heap.size, 0, none⟩) 0 0, .slice aH nH cH] 42)).drew.heap.size := by show _ ≤ ((w4.alloc _).alloc _).heap.size; simp
    have HBV := Lib.hid (B4.trans (hhV.mono (by omega)))
    have HHV := Lib.hid hhV
    have HAH : Hid (blk aH = none ∨ ∃ j, blk aH = some j ∧ j < w4.heap.size ∨ strs hs' = []) := by rcases HM4.out with h | ⟨u, v, rfl, hu, hcc⟩; exact .inr ⟨0, .inr h⟩; exact if hne : strs hs' = [] then .inr ⟨0, .inr hne⟩ else .inr ⟨u, .inl ⟨rfl, World.block_lt_of_cell? w4 _ (hcc 0 (List.length_pos_iff.mpr hne)).1⟩⟩
    have hwl : w.heap.size < w4.heap.size := by omega
    clear ne0 ne1 ne2 ne3 ne4 ne5 ne6 ne7 ne8 ne9 m0 m1 m2 m3 m4 m5 m6 m7 m8 m9 X4 hhV hs1 B4
    generalize ((w4.alloc (.cells #[] 76)).alloc (.cells #[.int .i64 (Wn : Int), .int .i64 (Hn : Int), .int .i64 a2, .int .i64 a3, .int .i64 a4, .int .i64 a5, .int .i64 a6, .int .i64 a7, .int .i64 a8, .string s1, .slice (some ⟨w4.heap.size, 0, none⟩) 0 0, .slice aH nH cH] 42)).drew = V at *
    generalize hh : w4.heap.size = h at *
    have hw4 : w4.heap.size ≤ h := Nat.le_of_eq hh
    clear hh
    generalize hsb : h + 1 = sb at *
    have hsb1 : h ≤ sb ∧ sb < V.heap.size := by omega
    have hob : b1 < h := by omega
    have HOT : Hid ((Value.slice (some ⟨h, 0, none⟩) 0 0).ownBlock ≠ some sb) := by show _ ≠ _; simp [Value.ownBlock]; omega
    obtain ⟨hsb1, hsb2⟩ := hsb1
    have hwb : w.heap.size < sb := by omega
    clear hsb hzV hb1l hb1l4 hb2l3 hb2l
    go_wp2_with fail
    go_loopw [11] (fun i wr => ∃ k : Nat, k ≤ R ∧ i = .int .i64 k ∧ ∃ (aC : Option Addr) (n cap : Nat), n ≤ 24 * k ∧ Hid ((rowsU Wn (rows.take k)).length = n) ∧ n ≤ cap ∧ wr.heap[sb]? = some (.cells #[.int .i64 (Wn : Int), .int .i64 (Hn : Int), .int .i64 a2, .int .i64 a3, .int .i64 a4, .int .i64 a5, .int .i64 a6, .int .i64 a7, .int .i64 a8, .string s1, .slice aC n cap, .slice aH nH cH] 42) ∧ wr.ownsRow h 76 2 (.slice aC n cap) n (cellsV (rowsU Wn (rows.take k))) ∧ Hid ((Value.slice aC n cap).ownBlock ≠ some sb) ∧ Below h V wr ∧ V.heap.size ≤ wr.heap.size ∧ Hid (∀ r ∈ rows.take k, r.size = 4 * Wn)) (fun i _ => R - (intOf i).toNat)
    case atStart => exact ⟨0, Nat.zero_le _, rfl, _, 0, 0, Nat.zero_le _, rfl, Nat.le_refl _, Y5.out, HOW.out, HOT, Below.refl _ _, Nat.le_refl _, fun r hr => by (simp at hr)⟩
    case round =>
      obtain ⟨k, hk, rfl, aC, n, cap, hn5, HLN, hnc, gs, hown, hoth, hB, hzr, HSZS⟩ := hrel
      clear Y5 HOW HOT
      have ys := box_cells gs
      have B6 := Lib.hid (HBV.out.trans (hB.mono (by omega)))
      have X6 := Lib.hid (box_below X5.out hB (by omega))
      by_cases hkt : k < R
      · have hkr : k < rows.length := by have := HRL.out; omega
        obtain ⟨row, hrow⟩ : ∃ r, rows[k] = r := ⟨_, rfl⟩
        have crow : wr.cell? ⟨b1, o1 + 3 + k, none⟩ = some (.string row) := by rw [← hrow]; exact (hB.cell (p := ⟨b1, o1 + 3 + k, none⟩) hob).trans ((HHV.out.cell (p := ⟨b1, o1 + 3 + k, none⟩) (by omega)).trans (HROW4.out k hkr))
        have crow2 : wr.cell? ⟨b1, o1 + (3 + k), none⟩ = some (.string row) := by rw [← Nat.add_assoc]; exact crow
        have hr5 : row.size ≤ 20000 := by rw [← hrow]; exact HRZ.out _ (List.getElem_mem hkr)
        have HTK : Hid (rowsU Wn (rows.take (k + 1)) = rowsU Wn (rows.take k) ++ unC Wn row.data.toList) := by show _ = _; rw [rowsU_take Wn rows k hkr, hrow]
        have HMEM : Hid (row ∈ rows) := by show _ ∈ _; rw [← hrow]; exact List.getElem_mem hkr
        have HTK2 : Hid (∀ r ∈ rows.take (k + 1), r ∈ rows.take k ∨ r = row) := fun r hr => by rw [List.take_succ_eq_append_getElem hkr, hrow] at hr; simpa using hr
        clear hrow
        have i3 : (k : Int) < (Hn : Int) := by omega
        have i5 : (0 : Int) ≤ 3 + (k : Int) := by omega
        have i6 : 3 + (k : Int) < 3 + (Hn : Int) := by omega
        have i7 : 3 + (k : Int) < (R : Int) + 3 := by omega
        have i8 : (3 + (k : Int)).toNat = 3 + k := by omega
        have hk9 : k ≤ 10 := by omega
        by_cases hrs : row.size = 4 * Wn
        case neg =>
          have HO : Hid (q = none) := by show _ = _; rw [HRD.out, if_neg (fun h => hrs (h.2.2 row HMEM.out))]
          have j3 : ((row.size : Int) != 4 * (Wn : Int)) = true := by simp; omega
          have j4 : ¬ ((row.size : Int) = 4 * (Wn : Int)) := by omega
          clear hrs gs hown
          have x6 := box_cells X6.out
          have f6 := box_free X6.out
          go_wp2
          exact bodyPost_ret (v := .tuple #[.agg #[.int .i64 0, .int .i64 0, .int .i64 0, .int .i64 0, .int .i64 0, .int .i64 0, .int .i64 0, .int .i64 0, .int .i64 0, .string ⟨#[]⟩, .slice none 0 0, .slice none 0 0], .bool false]) (by simp [results, Try.results74, x6, go_sem]) rfl (rsPost_none HO.out rfl (set12_below B6.out (Nat.le_refl _) _ _ _ _ _ _ _ _ _ _ _ _))
        case pos =>
          have j3 : ((row.size : Int) != 4 * (Wn : Int)) = false := by simp; omega
          have HRS := Lib.hid hrs
          obtain ⟨P, hP⟩ : ∃ P, rowsU Wn (rows.take k) = P := ⟨_, rfl⟩
          rw [hP] at hown HLN HTK
          obtain ⟨m, hm⟩ : ∃ m, m = n := ⟨_, rfl⟩
          have hm5 : m ≤ 24 * k := by omega
          have HPL : Hid (P.length = m) := by show _ = _; rw [HLN.out, hm]
          have HIN : Hid (∃ (aC : Option Addr) (cap : Nat), m + 0 ≤ cap ∧ wr.heap[sb]? = some (.cells #[.int .i64 (Wn : Int), .int .i64 (Hn : Int), .int .i64 a2, .int .i64 a3, .int .i64 a4, .int .i64 a5, .int .i64 a6, .int .i64 a7, .int .i64 a8, .string s1, .slice aC (m + 0) cap, .slice aH nH cH] 42) ∧ wr.ownsRow h 76 2 (.slice aC (m + 0) cap) (m + 0) (cellsV (P ++ unC 0 row.data.toList)) ∧ Hid ((Value.slice aC (m + 0) cap).ownBlock ≠ some sb)) := by rw [hm, Nat.add_zero, show unC 0 row.data.toList = [] from rfl, List.append_nil]; exact ⟨aC, cap, hnc, gs, hown, hoth⟩
          clear hP hm HLN hrs gs hown hnc hn5 hoth X6 B6
          go_wp2_with fail
          clear crow crow2 ys i5 i6 i7 i8 j3
          generalize wr = W5 at *
          go_loopw [13] (fun x wr => ∃ j : Nat, j ≤ Wn ∧ x = .int .i64 j ∧ ∃ (aC : Option Addr) (cap : Nat), m + j ≤ cap ∧ wr.heap[sb]? = some (.cells #[.int .i64 (Wn : Int), .int .i64 (Hn : Int), .int .i64 a2, .int .i64 a3, .int .i64 a4, .int .i64 a5, .int .i64 a6, .int .i64 a7, .int .i64 a8, .string s1, .slice aC (m + j) cap, .slice aH nH cH] 42) ∧ wr.ownsRow h 76 2 (.slice aC (m + j) cap) (m + j) (cellsV (P ++ unC j row.data.toList)) ∧ Hid ((Value.slice aC (m + j) cap).ownBlock ≠ some sb) ∧ Below h V wr ∧ V.heap.size ≤ wr.heap.size) (fun x _ => Wn - (intOf x).toNat)
          case atStart => obtain ⟨aC, cap, hnc, gs, hown, hoth⟩ := HIN.out; exact ⟨0, Nat.zero_le _, rfl, aC, cap, hnc, gs, hown, hoth, hB, hzr⟩
          case round =>
            obtain ⟨j, hj, rfl, aC, cap, hnc, gs, hown, hoth, hB, hzr⟩ := hrel
            clear HIN
            have ys := box_cells gs
            by_cases hjt : j < Wn
            · have hl3 : 4 * j + 3 < row.size := by have := HRS.out; omega
              obtain ⟨p, hp⟩ : ∃ p, 4 * j = p := ⟨_, rfl⟩
              rw [hp] at hl3
              have q0 : 4 * (j : Int) = (p : Int) := by omega
              have qw0 : IntKind.i64.wrap (p : Int) = (p : Int) := by rw [IntKind.wrap_i64]; omega
              have qw3 : IntKind.i64.wrap ((p : Int) + 3) = (p : Int) + 3 := by rw [IntKind.wrap_i64]; omega
              have q1 : (0 : Int) ≤ (p : Int) := by omega
              have q2 : (p : Int) ≤ (p : Int) + 3 := by omega
              have q3 : (p : Int) + 3 ≤ (row.size : Int) := by omega
              have q4 : (p : Int) + 3 < (row.size : Int) := by omega
              have q5 : ((p : Int) + 3).toNat = p + 3 := by omega
              have q6 : p ≤ 96 := by omega
              have q7 : (0 : Int) ≤ (p : Int) + 3 := by omega
              have q8 : (j : Int) < (Wn : Int) := by omega
              have hx : Hid ((row.extract p (p + 3)).data.toList = (row.data.toList.drop (4 * j)).take 3) := by show _ = _; rw [ext_list, hp, show p + 3 - p = 3 from by omega]
              obtain ⟨u, hu, hul⟩ : ∃ u : Nat, Hid (u = numL ((row.data.toList.drop (4 * j)).take 3)) ∧ u ≤ 16777215 := ⟨_, rfl, numL3 _ (by simp; omega)⟩
              obtain ⟨c, hcv, hc5⟩ : ∃ c : Nat, Hid (c = row[p + 3].toNat) ∧ c ≤ 255 := ⟨row[p + 3].toNat, rfl, by have := row[p + 3].toNat_lt; omega⟩
              have hc1 : numL ((row.data.toList.drop (4 * j + 3)).take 1) = c := by
                rw [hp, numL_one (by rw [← Lib.size_eq]; exact hl3), hcv.out]; rfl
              have HN : Hid (cellsV (P ++ unC (j + 1) row.data.toList) = cellsV (P ++ unC j row.data.toList) ++ [.int .i64 (u : Int), .int .i64 (c : Int)]) := by
                show _ = _
                rw [unC_snoc, ← List.append_assoc, cellsV_one_more, cellA, hc1, ← hu.out]
              have hb3 : row[p + 3].toNat = c := hcv.out.symm
              have hnum := Lib.hid (l02Of_any (row.extract p (p + 3)) wr.drew (by simp [ByteArray.size_extract]; omega))
              rw [hx.out, ← hu.out] at hnum
              have HBA : Hid (h ≤ wr.heap.size) := by show _ ≤ _; omega
              have yr : ∀ i, wr.drew.cell? ⟨sb, i, none⟩ = _ := box_cells gs
              have ya : ∀ i, (wr.alloc (.cells #[.int .i64 (u : Int), .int .i64 (c : Int)] 76)).drew.cell? ⟨sb, i, none⟩ = _ := cells_alloc (box_cells gs) (show sb < wr.heap.size by omega) _
              have hcw : IntKind.i64.wrap (c : Int) = (c : Int) := by rw [IntKind.wrap_i64]; omega
              have HARM := Lib.hid (rs_arm2 (u := (u : Int)) (c := (c : Int)) gs hown hoth.out hB hsb2 (by omega))
              have HOWN := Lib.hid hown
              have hmb : m + j ≤ 300 := by omega
              have hjW : j + 1 ≤ Wn := hjt
              clear gs hnc hcv hc1 hx hp hown hoth hm5
              go_wp2_with fail
              clear ys
              go_region_law (first
                | (go_simp; go_at_call 102; refine hnum.out.mono ?_; rintro e w' ⟨rfl, rfl⟩; go_wp2_with fail)
                | (refine step_append_lies _ rfl (.tmp 130) (.tmp 146) 40 rfl h 76 c0 (.agg #[.int .i64 0, .int .i64 0]) 2 16 Try.underlying40 hci hcz0 hcz1 hcz2 rfl (by decide) _ _ _ (by simp [Act.eval]) (HOWN.out.drew.alloc _) ⟨wr.heap.size, 0, none⟩ 1 1 [.int .i64 (u : Int), .int .i64 (c : Int)] (by simp [Act.eval]) rfl (fun j u hu => World.news_of_block (heap_alloc_new _ _) j u hu) (by intro u hu; simp at hu; rcases hu with rfl | rfl <;> rfl) (by decide) (by unfold maxLen; omega) (by omega) (by have := HBA.out; simp; omega) _ rfl ?_; intro g2 cap2 w2 hown2 hgrow2 hlie2 hlt2; obtain ⟨w3, e3, y2, f2, P3, hown3, hc3, hB3, hz3, hoth3⟩ := HARM.out g2 cap2 w2 hown2 hgrow2 hlie2; clear hown2 hgrow2 hlie2 hlt2))
              all_goals
                go_wp2
                go_roundw
                case rel => exact ⟨j + 1, hjW, by go_num, _, cap2, hc3.out, P3.out, (by rw [HN.out]; exact hown3.out), hoth3, hB3.out, hz3⟩
                case measure => simp [intOf]; omega
            · have hjj : Hid (j = Wn) := by show _ = _; omega
              have q8 : ¬ (j : Int) < (Wn : Int) := by omega
              have hmj : m + j ≤ 24 * (k + 1) := by omega
              go_wp2
              go_roundw
              case rel => exact ⟨k + 1, by omega, by go_num, aC, m + j, cap, hmj, (by show _ = _; rw [HTK.out, List.length_append, length_unC, HPL.out, hjj.out]), hnc, gs, (by rw [HTK.out, ← hjj.out]; exact hown), hoth, hB, hzr, fun r hr => by (rcases HTK2.out r hr with h | h; exact HSZS.out r h; rw [h]; exact HRS.out)⟩
              case measure => simp [intOf]; omega
      · have hkR : Hid (rows.take k = rows) := by show _ = _; exact List.take_of_length_le (by have := HRL.out; omega)
        rw [hkR.out] at hown HLN HSZS
        have i4 : ¬ (k : Int) < (Hn : Int) := by omega
        have HM6 := Lib.hid (HM4.out.below ((HHV.out.mono (by omega)).trans hB) hw4)
        have HMC : Hid (Mine h wr aC (cellsV (rowsU Wn rows))) := own_at hown
        have HAP : Hid (Apart aC (cellsV (rowsU Wn rows)) aH (strs hs')) := by
          rcases HMC.out with h | ⟨u, v, rfl, hu, _⟩
          · exact .inl h
          · rcases HAH.out with h | ⟨j, ⟨h, hj⟩ | h⟩
            · exact .inr (.inr (by rw [h]; simp [blk]))
            · exact .inr (.inr (by rw [h]; simp [blk]; omega))
            · exact .inr (.inl h)
        have GS := Lib.hid gs
        have hn9 : n ≤ 300 := by omega
        have HZW : Hid (sb < wr.heap.size) := by show _ < _; omega
        have hne : sb ≠ w.heap.size := by omega
        have y6 : ∀ i, wr.drew.cell? ⟨sb, i, none⟩ = (#[.int .i64 (Wn : Int), .int .i64 (Hn : Int), .int .i64 a2, .int .i64 a3, .int .i64 a4, .int .i64 a5, .int .i64 a6, .int .i64 a7, .int .i64 a8, .string s1, .slice aC n cap, .slice aH nH cH] : Array Value)[i]? := box_cells gs
        obtain ⟨r, hB'⟩ : ∃ r, scrB (Wn : Int) (Hn : Int) a2 a3 a4 a5 a6 a7 a8 s1 (rowsU Wn rows) hs' = r := ⟨_, rfl⟩
        have HO : Hid (q = if r = true then some (ScrD.mk (Wn : Int) (Hn : Int) a2 a3 a4 a5 a6 a7 a8 s1 (rowsU Wn rows) hs') else none) := by show _ = _; rw [HRD.out, if_pos ⟨HSZ.out, HRH.out, HSZS.out⟩, hB']
        have HBB := Lib.hid hB'
        have hwz : w.heap.size < wr.heap.size := by omega
        clear hB hown gs hB' hoth
        go_wp2_with fail
        clear ys
        have HCALL : Hid (Calls Try.prog 20 #[.agg #[.int .i64 (Wn : Int), .int .i64 (Hn : Int), .int .i64 a2, .int .i64 a3, .int .i64 a4, .int .i64 a5, .int .i64 a6, .int .i64 a7, .int .i64 a8, .string s1, .slice aC n cap, .slice aH nH cH]] wr.drew fun e w' => e = .returned (.bool r) ∧ Below wr.heap.size wr.drew w') := (specScr_is (Wn : Int) (Hn : Int) a2 a3 a4 a5 a6 a7 a8 s1 aC n cap (rowsU Wn rows) aH nH cH hs' r _ (by unfold maxLen; omega) HMC.out.at HLN.out (by unfold maxLen; omega) HM6.out.at HNH.out (by have := HNH.out; unfold maxLen; omega) (fun s hs => by have := HHZ.out s hs; unfold maxLen; omega) HBB.out)
        go_region_held3 (fun w' => ∀ i, w'.cell? ⟨sb, i, none⟩ = (#[.int .i64 (Wn : Int), .int .i64 (Hn : Int), .int .i64 a2, .int .i64 a3, .int .i64 a4, .int .i64 a5, .int .i64 a6, .int .i64 a7, .int .i64 a8, .string s1, .slice aC n cap, .slice aH nH cH] : Array Value)[i]?) (first | with_reducible exact set12_cells y7 hne _ _ _ _ _ _ _ _ _ _ _ _ | with_reducible exact y7 | with_reducible exact y6 | fail)
          (first
          | (go_at_call 20; refine HCALL.out.mono ?_; rintro e w7 ⟨rfl, hb7⟩; have hz7 : wr.heap.size ≤ w7.heap.size := hb7.size; have B7 : Below w.heap.size w w7 := B6.out.drew.trans (hb7.mono (by omega)); have X7 := Lib.hid (box_below (W := wr.drew) X6.out hb7 (by omega)); have x7 := box_cells X7.out; have f7 := box_free X7.out; have y7 := cells_below y6 hb7 HZW.out)
          | fail)
        rename_i hh
        clear hh
        have HMC7 : Hid (Mine h w7 aC (cellsV (rowsU Wn rows))) := (show Mine h wr.drew aC (cellsV (rowsU Wn rows)) from HMC.out).below hb7 (Nat.le_refl _)
        have HM7 := Lib.hid ((show Mine _ wr.drew aH (strs hs') from HM6.out).below hb7 (Nat.le_refl _))
        go_wp2
        exact bodyPost_ret (v := .tuple #[.agg #[.int .i64 (Wn : Int), .int .i64 (Hn : Int), .int .i64 a2, .int .i64 a3, .int .i64 a4, .int .i64 a5, .int .i64 a6, .int .i64 a7, .int .i64 a8, .string s1, .slice aC n cap, .slice aH nH cH], .bool r]) (by simp [results, Try.results74, x7, go_sem]) rfl ⟨(Wn : Int), (Hn : Int), a2, a3, a4, a5, a6, a7, a8, s1, aC, n, cap, aH, nH, cH, (by rw [HO.out]; cases r <;> rfl), fun d hd => by (rw [HO.out] at hd; cases r; cases hd; cases hd; exact ⟨rfl, HLN.out, hnc, HNH.out, HAP.out, (set12_mine HMC7.out (by omega) _ _ _ _ _ _ _ _ _ _ _ _).mono (by omega), (set12_mine HM7.out (by omega) _ _ _ _ _ _ _ _ _ _ _ _).mono (by omega)⟩), set12_below B7 (Nat.le_refl _) _ _ _ _ _ _ _ _ _ _ _ _⟩
  ·
    rename_i hheld
    clear hheld
    have hhV : Below w4.heap.size w4 ((w4.alloc (.cells #[.int .i64 (Wn : Int), .int .i64 (Hn : Int), .int .i64 a2, .int .i64 a3, .int .i64 a4, .int .i64 a5, .int .i64 a6, .int .i64 a7, .int .i64 a8, .string s1, .slice (some ⟨w4.heap.size + 1, 0, none⟩) 0 0, .slice aH nH cH] 42)).alloc (.cells #[] 76)).drew := (((Below.refl _ _).alloc (Nat.le_refl _) _).alloc (by simp) _).drew
    have X5 : Hid (((w4.alloc (.cells #[.int .i64 (Wn : Int), .int .i64 (Hn : Int), .int .i64 a2, .int .i64 a3, .int .i64 a4, .int .i64 a5, .int .i64 a6, .int .i64 a7, .int .i64 a8, .string s1, .slice (some ⟨w4.heap.size + 1, 0, none⟩) 0 0, .slice aH nH cH] 42)).alloc (.cells #[] 76)).drew.heap[w.heap.size]? = some (.cells #[.int .i64 0, .int .i64 0, .int .i64 0, .int .i64 0, .int .i64 0, .int .i64 0, .int .i64 0, .int .i64 0, .int .i64 0, .string ⟨#[]⟩, .slice none 0 0, .slice none 0 0] 42)) := box_below X4.out hhV (by omega)
    have hs1 : (w4.alloc (.cells #[.int .i64 (Wn : Int), .int .i64 (Hn : Int), .int .i64 a2, .int .i64 a3, .int .i64 a4, .int .i64 a5, .int .i64 a6, .int .i64 a7, .int .i64 a8, .string s1, .slice (some ⟨w4.heap.size + 1, 0, none⟩) 0 0, .slice aH nH cH] 42)).heap.size = w4.heap.size + 1 := by simp
    have Y5 : Hid (((w4.alloc (.cells #[.int .i64 (Wn : Int), .int .i64 (Hn : Int), .int .i64 a2, .int .i64 a3, .int .i64 a4, .int .i64 a5, .int .i64 a6, .int .i64 a7, .int .i64 a8, .string s1, .slice (some ⟨w4.heap.size + 1, 0, none⟩) 0 0, .slice aH nH cH] 42)).alloc (.cells #[] 76)).drew.heap[w4.heap.size]? = some (.cells #[.int .i64 (Wn : Int), .int .i64 (Hn : Int), .int .i64 a2, .int .i64 a3, .int .i64 a4, .int .i64 a5, .int .i64 a6, .int .i64 a7, .int .i64 a8, .string s1, .slice (some ⟨w4.heap.size + 1, 0, none⟩) 0 0, .slice aH nH cH] 42)) := (Below.heap_alloc (w4.alloc (.cells #[.int .i64 (Wn : Int), .int .i64 (Hn : Int), .int .i64 a2, .int .i64 a3, .int .i64 a4, .int .i64 a5, .int .i64 a6, .int .i64 a7, .int .i64 a8, .string s1, .slice (some ⟨w4.heap.size + 1, 0, none⟩) 0 0, .slice aH nH cH] 42)) _ w4.heap.size (by simp)).trans (box_new w4 (.cells #[.int .i64 (Wn : Int), .int .i64 (Hn : Int), .int .i64 a2, .int .i64 a3, .int .i64 a4, .int .i64 a5, .int .i64 a6, .int .i64 a7, .int .i64 a8, .string s1, .slice (some ⟨w4.heap.size + 1, 0, none⟩) 0 0, .slice aH nH cH] 42))
    have HOW : Hid (((w4.alloc (.cells #[.int .i64 (Wn : Int), .int .i64 (Hn : Int), .int .i64 a2, .int .i64 a3, .int .i64 a4, .int .i64 a5, .int .i64 a6, .int .i64 a7, .int .i64 a8, .string s1, .slice (some ⟨w4.heap.size + 1, 0, none⟩) 0 0, .slice aH nH cH] 42)).alloc (.cells #[] 76)).drew.ownsRow w4.heap.size 76 2 (.slice (some ⟨w4.heap.size + 1, 0, none⟩) 0 0) 0 (cellsV (rowsU Wn (rows.take 0)))) := by have h := (World.ownsRow_made (base := w4.heap.size) (e := 76) (size := 2) (w4.alloc (.cells #[.int .i64 (Wn : Int), .int .i64 (Hn : Int), .int .i64 a2, .int .i64 a3, .int .i64 a4, .int .i64 a5, .int .i64 a6, .int .i64 a7, .int .i64 a8, .string s1, .slice (some ⟨w4.heap.size + 1, 0, none⟩) 0 0, .slice aH nH cH] 42)) #[] 0 (by simp) (Nat.zero_le _) rfl).drew; rw [hs1] at h; exact h
    have hzV : w4.heap.size + 2 ≤ ((w4.alloc (.cells #[.int .i64 (Wn : Int), .int .i64 (Hn : Int), .int .i64 a2, .int .i64 a3, .int .i64 a4, .int .i64 a5, .int .i64 a6, .int .i64 a7, .int .i64 a8, .string s1, .slice (some ⟨w4.heap.size + 1, 0, none⟩) 0 0, .slice aH nH cH] 42)).alloc (.cells #[] 76)).drew.heap.size := by show _ ≤ ((w4.alloc _).alloc _).heap.size; simp
    have HBV := Lib.hid (B4.trans (hhV.mono (by omega)))
    have HHV := Lib.hid hhV
    have HAH : Hid (blk aH = none ∨ ∃ j, blk aH = some j ∧ j < w4.heap.size ∨ strs hs' = []) := by rcases HM4.out with h | ⟨u, v, rfl, hu, hcc⟩; exact .inr ⟨0, .inr h⟩; exact if hne : strs hs' = [] then .inr ⟨0, .inr hne⟩ else .inr ⟨u, .inl ⟨rfl, World.block_lt_of_cell? w4 _ (hcc 0 (List.length_pos_iff.mpr hne)).1⟩⟩
    have hwl : w.heap.size < w4.heap.size := by omega
    clear ne0 ne1 ne2 ne3 ne4 ne5 ne6 ne7 ne8 ne9 m0 m1 m2 m3 m4 m5 m6 m7 m8 m9 X4 hhV hs1 B4
    generalize ((w4.alloc (.cells #[.int .i64 (Wn : Int), .int .i64 (Hn : Int), .int .i64 a2, .int .i64 a3, .int .i64 a4, .int .i64 a5, .int .i64 a6, .int .i64 a7, .int .i64 a8, .string s1, .slice (some ⟨w4.heap.size + 1, 0, none⟩) 0 0, .slice aH nH cH] 42)).alloc (.cells #[] 76)).drew = V at *
    generalize hh : w4.heap.size = sb at *
    have hw4 : w4.heap.size ≤ sb := Nat.le_of_eq hh
    clear hh
    generalize he0 : sb + 1 = e0 at *
    have hsb1 : sb < V.heap.size := by omega
    have hob : b1 < sb := by omega
    have HOT : Hid ((Value.slice (some ⟨e0, 0, none⟩) 0 0).ownBlock ≠ some sb) := by show _ ≠ _; simp [Value.ownBlock]; omega
    have hsb2 : sb < V.heap.size := hsb1
    have hwb : w.heap.size < sb := hwl
    clear he0 hzV hb1l hb1l4 hb2l3 hb2l
    go_wp2_with fail
    go_loopw [11] (fun i wr => ∃ k : Nat, k ≤ R ∧ i = .int .i64 k ∧ ∃ (aC : Option Addr) (n cap : Nat), n ≤ 24 * k ∧ Hid ((rowsU Wn (rows.take k)).length = n) ∧ n ≤ cap ∧ wr.heap[sb]? = some (.cells #[.int .i64 (Wn : Int), .int .i64 (Hn : Int), .int .i64 a2, .int .i64 a3, .int .i64 a4, .int .i64 a5, .int .i64 a6, .int .i64 a7, .int .i64 a8, .string s1, .slice aC n cap, .slice aH nH cH] 42) ∧ wr.ownsRow sb 76 2 (.slice aC n cap) n (cellsV (rowsU Wn (rows.take k))) ∧ Hid ((Value.slice aC n cap).ownBlock ≠ some sb) ∧ Below sb V wr ∧ V.heap.size ≤ wr.heap.size ∧ Hid (∀ r ∈ rows.take k, r.size = 4 * Wn)) (fun i _ => R - (intOf i).toNat)
    case atStart => exact ⟨0, Nat.zero_le _, rfl, _, 0, 0, Nat.zero_le _, rfl, Nat.le_refl _, Y5.out, HOW.out, HOT, Below.refl _ _, Nat.le_refl _, fun r hr => by (simp at hr)⟩
    case round =>
      obtain ⟨k, hk, rfl, aC, n, cap, hn5, HLN, hnc, gs, hown, hoth, hB, hzr, HSZS⟩ := hrel
      clear Y5 HOW HOT
      have ys := box_cells gs
      have B6 := Lib.hid (HBV.out.trans (hB.mono (by omega)))
      have X6 := Lib.hid (box_below X5.out hB (by omega))
      by_cases hkt : k < R
      · have hkr : k < rows.length := by have := HRL.out; omega
        obtain ⟨row, hrow⟩ : ∃ r, rows[k] = r := ⟨_, rfl⟩
        have crow : wr.cell? ⟨b1, o1 + 3 + k, none⟩ = some (.string row) := by rw [← hrow]; exact (hB.cell (p := ⟨b1, o1 + 3 + k, none⟩) hob).trans ((HHV.out.cell (p := ⟨b1, o1 + 3 + k, none⟩) (by omega)).trans (HROW4.out k hkr))
        have crow2 : wr.cell? ⟨b1, o1 + (3 + k), none⟩ = some (.string row) := by rw [← Nat.add_assoc]; exact crow
        have hr5 : row.size ≤ 20000 := by rw [← hrow]; exact HRZ.out _ (List.getElem_mem hkr)
        have HTK : Hid (rowsU Wn (rows.take (k + 1)) = rowsU Wn (rows.take k) ++ unC Wn row.data.toList) := by show _ = _; rw [rowsU_take Wn rows k hkr, hrow]
        have HMEM : Hid (row ∈ rows) := by show _ ∈ _; rw [← hrow]; exact List.getElem_mem hkr
        have HTK2 : Hid (∀ r ∈ rows.take (k + 1), r ∈ rows.take k ∨ r = row) := fun r hr => by rw [List.take_succ_eq_append_getElem hkr, hrow] at hr; simpa using hr
        clear hrow
        have i3 : (k : Int) < (Hn : Int) := by omega
        have i5 : (0 : Int) ≤ 3 + (k : Int) := by omega
        have i6 : 3 + (k : Int) < 3 + (Hn : Int) := by omega
        have i7 : 3 + (k : Int) < (R : Int) + 3 := by omega
        have i8 : (3 + (k : Int)).toNat = 3 + k := by omega
        have hk9 : k ≤ 10 := by omega
        by_cases hrs : row.size = 4 * Wn
        case neg =>
          have HO : Hid (q = none) := by show _ = _; rw [HRD.out, if_neg (fun h => hrs (h.2.2 row HMEM.out))]
          have j3 : ((row.size : Int) != 4 * (Wn : Int)) = true := by simp; omega
          have j4 : ¬ ((row.size : Int) = 4 * (Wn : Int)) := by omega
          clear hrs gs hown
          have x6 := box_cells X6.out
          have f6 := box_free X6.out
          go_wp2
          exact bodyPost_ret (v := .tuple #[.agg #[.int .i64 0, .int .i64 0, .int .i64 0, .int .i64 0, .int .i64 0, .int .i64 0, .int .i64 0, .int .i64 0, .int .i64 0, .string ⟨#[]⟩, .slice none 0 0, .slice none 0 0], .bool false]) (by simp [results, Try.results74, x6, go_sem]) rfl (rsPost_none HO.out rfl (set12_below B6.out (Nat.le_refl _) _ _ _ _ _ _ _ _ _ _ _ _))
        case pos =>
          have j3 : ((row.size : Int) != 4 * (Wn : Int)) = false := by simp; omega
          have HRS := Lib.hid hrs
          obtain ⟨P, hP⟩ : ∃ P, rowsU Wn (rows.take k) = P := ⟨_, rfl⟩
          rw [hP] at hown HLN HTK
          obtain ⟨m, hm⟩ : ∃ m, m = n := ⟨_, rfl⟩
          have hm5 : m ≤ 24 * k := by omega
          have HPL : Hid (P.length = m) := by show _ = _; rw [HLN.out, hm]
          have HIN : Hid (∃ (aC : Option Addr) (cap : Nat), m + 0 ≤ cap ∧ wr.heap[sb]? = some (.cells #[.int .i64 (Wn : Int), .int .i64 (Hn : Int), .int .i64 a2, .int .i64 a3, .int .i64 a4, .int .i64 a5, .int .i64 a6, .int .i64 a7, .int .i64 a8, .string s1, .slice aC (m + 0) cap, .slice aH nH cH] 42) ∧ wr.ownsRow sb 76 2 (.slice aC (m + 0) cap) (m + 0) (cellsV (P ++ unC 0 row.data.toList)) ∧ Hid ((Value.slice aC (m + 0) cap).ownBlock ≠ some sb)) := by rw [hm, Nat.add_zero, show unC 0 row.data.toList = [] from rfl, List.append_nil]; exact ⟨aC, cap, hnc, gs, hown, hoth⟩
          clear hP hm HLN hrs gs hown hnc hn5 hoth X6 B6
          go_wp2_with fail
          clear crow crow2 ys i5 i6 i7 i8 j3
          generalize wr = W5 at *
          go_loopw [13] (fun x wr => ∃ j : Nat, j ≤ Wn ∧ x = .int .i64 j ∧ ∃ (aC : Option Addr) (cap : Nat), m + j ≤ cap ∧ wr.heap[sb]? = some (.cells #[.int .i64 (Wn : Int), .int .i64 (Hn : Int), .int .i64 a2, .int .i64 a3, .int .i64 a4, .int .i64 a5, .int .i64 a6, .int .i64 a7, .int .i64 a8, .string s1, .slice aC (m + j) cap, .slice aH nH cH] 42) ∧ wr.ownsRow sb 76 2 (.slice aC (m + j) cap) (m + j) (cellsV (P ++ unC j row.data.toList)) ∧ Hid ((Value.slice aC (m + j) cap).ownBlock ≠ some sb) ∧ Below sb V wr ∧ V.heap.size ≤ wr.heap.size) (fun x _ => Wn - (intOf x).toNat)
          case atStart => obtain ⟨aC, cap, hnc, gs, hown, hoth⟩ := HIN.out; exact ⟨0, Nat.zero_le _, rfl, aC, cap, hnc, gs, hown, hoth, hB, hzr⟩
          case round =>
            obtain ⟨j, hj, rfl, aC, cap, hnc, gs, hown, hoth, hB, hzr⟩ := hrel
            clear HIN
            have ys := box_cells gs
            by_cases hjt : j < Wn
            · have hl3 : 4 * j + 3 < row.size := by have := HRS.out; omega
              obtain ⟨p, hp⟩ : ∃ p, 4 * j = p := ⟨_, rfl⟩
              rw [hp] at hl3
              have q0 : 4 * (j : Int) = (p : Int) := by omega
              have qw0 : IntKind.i64.wrap (p : Int) = (p : Int) := by rw [IntKind.wrap_i64]; omega
              have qw3 : IntKind.i64.wrap ((p : Int) + 3) = (p : Int) + 3 := by rw [IntKind.wrap_i64]; omega
              have q1 : (0 : Int) ≤ (p : Int) := by omega
              have q2 : (p : Int) ≤ (p : Int) + 3 := by omega
              have q3 : (p : Int) + 3 ≤ (row.size : Int) := by omega
              have q4 : (p : Int) + 3 < (row.size : Int) := by omega
              have q5 : ((p : Int) + 3).toNat = p + 3 := by omega
              have q6 : p ≤ 96 := by omega
              have q7 : (0 : Int) ≤ (p : Int) + 3 := by omega
              have q8 : (j : Int) < (Wn : Int) := by omega
              have hx : Hid ((row.extract p (p + 3)).data.toList = (row.data.toList.drop (4 * j)).take 3) := by show _ = _; rw [ext_list, hp, show p + 3 - p = 3 from by omega]
              obtain ⟨u, hu, hul⟩ : ∃ u : Nat, Hid (u = numL ((row.data.toList.drop (4 * j)).take 3)) ∧ u ≤ 16777215 := ⟨_, rfl, numL3 _ (by simp; omega)⟩
              obtain ⟨c, hcv, hc5⟩ : ∃ c : Nat, Hid (c = row[p + 3].toNat) ∧ c ≤ 255 := ⟨row[p + 3].toNat, rfl, by have := row[p + 3].toNat_lt; omega⟩
              have hc1 : numL ((row.data.toList.drop (4 * j + 3)).take 1) = c := by
                rw [hp, numL_one (by rw [← Lib.size_eq]; exact hl3), hcv.out]; rfl
              have HN : Hid (cellsV (P ++ unC (j + 1) row.data.toList) = cellsV (P ++ unC j row.data.toList) ++ [.int .i64 (u : Int), .int .i64 (c : Int)]) := by
                show _ = _
                rw [unC_snoc, ← List.append_assoc, cellsV_one_more, cellA, hc1, ← hu.out]
              have hb3 : row[p + 3].toNat = c := hcv.out.symm
              have hnum := Lib.hid (l02Of_any (row.extract p (p + 3)) wr.drew (by simp [ByteArray.size_extract]; omega))
              rw [hx.out, ← hu.out] at hnum
              have HBA : Hid (sb ≤ wr.heap.size) := by show _ ≤ _; omega
              have yr : ∀ i, wr.drew.cell? ⟨sb, i, none⟩ = _ := box_cells gs
              have ya : ∀ i, (wr.alloc (.cells #[.int .i64 (u : Int), .int .i64 (c : Int)] 76)).drew.cell? ⟨sb, i, none⟩ = _ := cells_alloc (box_cells gs) (show sb < wr.heap.size by omega) _
              have hcw : IntKind.i64.wrap (c : Int) = (c : Int) := by rw [IntKind.wrap_i64]; omega
              have HARM := Lib.hid (rs_arm2 (u := (u : Int)) (c := (c : Int)) gs hown hoth.out hB hsb2 (by omega))
              have HOWN := Lib.hid hown
              have hmb : m + j ≤ 300 := by omega
              have hjW : j + 1 ≤ Wn := hjt
              clear gs hnc hcv hc1 hx hp hown hoth hm5
              go_wp2_with fail
              clear ys
              go_region_law (first
                | (go_simp; go_at_call 102; refine hnum.out.mono ?_; rintro e w' ⟨rfl, rfl⟩; go_wp2_with fail)
                | (refine step_append_lies _ rfl (.tmp 130) (.tmp 146) 40 rfl sb 76 c0 (.agg #[.int .i64 0, .int .i64 0]) 2 16 Try.underlying40 hci hcz0 hcz1 hcz2 rfl (by decide) _ _ _ (by simp [Act.eval]) (HOWN.out.drew.alloc _) ⟨wr.heap.size, 0, none⟩ 1 1 [.int .i64 (u : Int), .int .i64 (c : Int)] (by simp [Act.eval]) rfl (fun j u hu => World.news_of_block (heap_alloc_new _ _) j u hu) (by intro u hu; simp at hu; rcases hu with rfl | rfl <;> rfl) (by decide) (by unfold maxLen; omega) (by omega) (by have := HBA.out; simp; omega) _ rfl ?_; intro g2 cap2 w2 hown2 hgrow2 hlie2 hlt2; obtain ⟨w3, e3, y2, f2, P3, hown3, hc3, hB3, hz3, hoth3⟩ := HARM.out g2 cap2 w2 hown2 hgrow2 hlie2; clear hown2 hgrow2 hlie2 hlt2))
              all_goals
                go_wp2
                go_roundw
                case rel => exact ⟨j + 1, hjW, by go_num, _, cap2, hc3.out, P3.out, (by rw [HN.out]; exact hown3.out), hoth3, hB3.out, hz3⟩
                case measure => simp [intOf]; omega
            · have hjj : Hid (j = Wn) := by show _ = _; omega
              have q8 : ¬ (j : Int) < (Wn : Int) := by omega
              have hmj : m + j ≤ 24 * (k + 1) := by omega
              go_wp2
              go_roundw
              case rel => exact ⟨k + 1, by omega, by go_num, aC, m + j, cap, hmj, (by show _ = _; rw [HTK.out, List.length_append, length_unC, HPL.out, hjj.out]), hnc, gs, (by rw [HTK.out, ← hjj.out]; exact hown), hoth, hB, hzr, fun r hr => by (rcases HTK2.out r hr with h | h; exact HSZS.out r h; rw [h]; exact HRS.out)⟩
              case measure => simp [intOf]; omega
      · have hkR : Hid (rows.take k = rows) := by show _ = _; exact List.take_of_length_le (by have := HRL.out; omega)
        rw [hkR.out] at hown HLN HSZS
        have i4 : ¬ (k : Int) < (Hn : Int) := by omega
        have HM6 := Lib.hid (HM4.out.below ((HHV.out.mono (by omega)).trans hB) hw4)
        have HMC : Hid (Mine sb wr aC (cellsV (rowsU Wn rows))) := own_at hown
        have HAP : Hid (Apart aC (cellsV (rowsU Wn rows)) aH (strs hs')) := by
          rcases HMC.out with h | ⟨u, v, rfl, hu, _⟩
          · exact .inl h
          · rcases HAH.out with h | ⟨j, ⟨h, hj⟩ | h⟩
            · exact .inr (.inr (by rw [h]; simp [blk]))
            · exact .inr (.inr (by rw [h]; simp [blk]; omega))
            · exact .inr (.inl h)
        have GS := Lib.hid gs
        have hn9 : n ≤ 300 := by omega
        have HZW : Hid (sb < wr.heap.size) := by show _ < _; omega
        have hne : sb ≠ w.heap.size := by omega
        have y6 : ∀ i, wr.drew.cell? ⟨sb, i, none⟩ = (#[.int .i64 (Wn : Int), .int .i64 (Hn : Int), .int .i64 a2, .int .i64 a3, .int .i64 a4, .int .i64 a5, .int .i64 a6, .int .i64 a7, .int .i64 a8, .string s1, .slice aC n cap, .slice aH nH cH] : Array Value)[i]? := box_cells gs
        obtain ⟨r, hB'⟩ : ∃ r, scrB (Wn : Int) (Hn : Int) a2 a3 a4 a5 a6 a7 a8 s1 (rowsU Wn rows) hs' = r := ⟨_, rfl⟩
        have HO : Hid (q = if r = true then some (ScrD.mk (Wn : Int) (Hn : Int) a2 a3 a4 a5 a6 a7 a8 s1 (rowsU Wn rows) hs') else none) := by show _ = _; rw [HRD.out, if_pos ⟨HSZ.out, HRH.out, HSZS.out⟩, hB']
        have HBB := Lib.hid hB'
        have hwz : w.heap.size < wr.heap.size := by omega
        clear hB hown gs hB' hoth
        go_wp2_with fail
        clear ys
        have HCALL : Hid (Calls Try.prog 20 #[.agg #[.int .i64 (Wn : Int), .int .i64 (Hn : Int), .int .i64 a2, .int .i64 a3, .int .i64 a4, .int .i64 a5, .int .i64 a6, .int .i64 a7, .int .i64 a8, .string s1, .slice aC n cap, .slice aH nH cH]] wr.drew fun e w' => e = .returned (.bool r) ∧ Below wr.heap.size wr.drew w') := (specScr_is (Wn : Int) (Hn : Int) a2 a3 a4 a5 a6 a7 a8 s1 aC n cap (rowsU Wn rows) aH nH cH hs' r _ (by unfold maxLen; omega) HMC.out.at HLN.out (by unfold maxLen; omega) HM6.out.at HNH.out (by have := HNH.out; unfold maxLen; omega) (fun s hs => by have := HHZ.out s hs; unfold maxLen; omega) HBB.out)
        go_region_held3 (fun w' => ∀ i, w'.cell? ⟨sb, i, none⟩ = (#[.int .i64 (Wn : Int), .int .i64 (Hn : Int), .int .i64 a2, .int .i64 a3, .int .i64 a4, .int .i64 a5, .int .i64 a6, .int .i64 a7, .int .i64 a8, .string s1, .slice aC n cap, .slice aH nH cH] : Array Value)[i]?) (first | with_reducible exact set12_cells y7 hne _ _ _ _ _ _ _ _ _ _ _ _ | with_reducible exact y7 | with_reducible exact y6 | fail)
          (first
          | (go_at_call 20; refine HCALL.out.mono ?_; rintro e w7 ⟨rfl, hb7⟩; have hz7 : wr.heap.size ≤ w7.heap.size := hb7.size; have B7 : Below w.heap.size w w7 := B6.out.drew.trans (hb7.mono (by omega)); have X7 := Lib.hid (box_below (W := wr.drew) X6.out hb7 (by omega)); have x7 := box_cells X7.out; have f7 := box_free X7.out; have y7 := cells_below y6 hb7 HZW.out)
          | fail)
        rename_i hh
        clear hh
        have HMC7 : Hid (Mine sb w7 aC (cellsV (rowsU Wn rows))) := (show Mine sb wr.drew aC (cellsV (rowsU Wn rows)) from HMC.out).below hb7 (Nat.le_refl _)
        have HM7 := Lib.hid ((show Mine _ wr.drew aH (strs hs') from HM6.out).below hb7 (Nat.le_refl _))
        go_wp2
        exact bodyPost_ret (v := .tuple #[.agg #[.int .i64 (Wn : Int), .int .i64 (Hn : Int), .int .i64 a2, .int .i64 a3, .int .i64 a4, .int .i64 a5, .int .i64 a6, .int .i64 a7, .int .i64 a8, .string s1, .slice aC n cap, .slice aH nH cH], .bool r]) (by simp [results, Try.results74, x7, go_sem]) rfl ⟨(Wn : Int), (Hn : Int), a2, a3, a4, a5, a6, a7, a8, s1, aC, n, cap, aH, nH, cH, (by rw [HO.out]; cases r <;> rfl), fun d hd => by (rw [HO.out] at hd; cases r; cases hd; cases hd; exact ⟨rfl, HLN.out, hnc, HNH.out, HAP.out, (set12_mine HMC7.out (by omega) _ _ _ _ _ _ _ _ _ _ _ _).mono (by omega), (set12_mine HM7.out (by omega) _ _ _ _ _ _ _ _ _ _ _ _).mono (by omega)⟩), set12_below B7 (Nat.le_refl _) _ _ _ _ _ _ _ _ _ _ _ _⟩
end Go.Proofs.Ytfabclhcceooaaa
