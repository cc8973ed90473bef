/-
  Contract of readScreen of the given program. Condition: a bound on the length.
-/
import Derived.Test.YtfabclhcceooaaaRsA
namespace Go.Proofs.Ytfabclhcceooaaa
open Go.ChangeShapes Go.WideShapes Go.ChangeAt Go.RowKit
set_option linter.unusedVariables false
set_option linter.unusedSimpArgs false
set_option maxRecDepth 100000
attribute [local irreducible] wpList

set_option maxHeartbeats 8000000 in
theorem readScreen_any (s : ByteArray) (w : World) (hs : s.size ≤ 65536) :
    Calls Try.prog 76 #[.string s] w (RsPost w (rdI s)) := by
  obtain ⟨c0, hci, hcz0, hcz1, hcz2⟩ := info_parts Try.info_cell
  have hb0 : Below w.heap.size w (w.alloc (.cells #[.int .i64 0, .int .i64 0, .int .i64 0, .int .i64 0, .int .i64 0, .int .i64 0, .int .i64 0, .int .i64 0, .int .i64 0, .string ⟨#[]⟩, .slice none 0 0, .slice none 0 0] 42)) := (Below.refl _ _).alloc (Nat.le_refl _) _
  have HR := Lib.hid (readFields_cap s (w.alloc (.cells #[.int .i64 0, .int .i64 0, .int .i64 0, .int .i64 0, .int .i64 0, .int .i64 0, .int .i64 0, .int .i64 0, .int .i64 0, .string ⟨#[]⟩, .slice none 0 0, .slice none 0 0] 42)) hs)
  cases hF : fieldsF s with
  | none =>
    have HN := Lib.hid (rdI_none hF)
    rw [hF] at HR
    clear hF
    go_enter Try.func76, Try.ntmps76
    go_wp2_with fail
    refine HR.out.mono ?_
    rintro e w1 ⟨p1, n1, c1, rfl, _, hb1⟩
    have hz1 : w.heap.size + 1 ≤ w1.heap.size := by have := hb1.size; simpa using this
    have B1 : Below w.heap.size w w1 := hb0.trans (hb1.mono (by simp))
    have X1 := Lib.hid (box_below (box_new w (.cells #[.int .i64 0, .int .i64 0, .int .i64 0, .int .i64 0, .int .i64 0, .int .i64 0, .int .i64 0, .int .i64 0, .int .i64 0, .string ⟨#[]⟩, .slice none 0 0, .slice none 0 0] 42)) hb1 (by simp))
    clear hb1
    have x1 := box_cells X1.out
    have f1 := box_free X1.out
    go_wp2
    exact bodyPost_ret (v := .tuple #[.agg #[.int .i64 0, .int .i64 0, .int .i64 0, .int .i64 0, .int .i64 0, .int .i64 0, .int .i64 0, .int .i64 0, .int .i64 0, .string ⟨#[]⟩, .slice none 0 0, .slice none 0 0], .bool false]) (by simp [results, Try.results76, x1, go_sem]) rfl (rsPost_none HN.out rfl (set12_below B1 (Nat.le_refl _) _ _ _ _ _ _ _ _ _ _ _ _))
  | some zs =>
    have h60 := fieldsF_len hF
    rw [hF] at HR
    by_cases hl : zs.length < 3
    case pos =>
      have HN := Lib.hid (rdI_few hF hl)
      clear hF
      go_enter Try.func76, Try.ntmps76
      go_wp2_with fail
      refine HR.out.mono ?_
      rintro e w1 ⟨p1, n1, c1, rfl, hx, hb1⟩
      have hn3 : (n1 : Int) < 3 := by have := (hx zs rfl).1; omega
      clear hx hl
      have hz1 : w.heap.size + 1 ≤ w1.heap.size := by have := hb1.size; simpa using this
      have B1 : Below w.heap.size w w1 := hb0.trans (hb1.mono (by simp))
      have X1 := Lib.hid (box_below (box_new w (.cells #[.int .i64 0, .int .i64 0, .int .i64 0, .int .i64 0, .int .i64 0, .int .i64 0, .int .i64 0, .int .i64 0, .int .i64 0, .string ⟨#[]⟩, .slice none 0 0, .slice none 0 0] 42)) hb1 (by simp))
      clear hb1
      have x1 := box_cells X1.out
      have f1 := box_free X1.out
      go_wp2
      exact bodyPost_ret (v := .tuple #[.agg #[.int .i64 0, .int .i64 0, .int .i64 0, .int .i64 0, .int .i64 0, .int .i64 0, .int .i64 0, .int .i64 0, .int .i64 0, .string ⟨#[]⟩, .slice none 0 0, .slice none 0 0], .bool false]) (by simp [results, Try.results76, x1, go_sem]) rfl (rsPost_none HN.out rfl (set12_below B1 (Nat.le_refl _) _ _ _ _ _ _ _ _ _ _ _ _))
    case neg =>
      obtain ⟨s0, s1, s2, rows, rfl⟩ := three_more zs hl
      have hsz := fieldsF_each hF
      have z0 : s0.size ≤ 20000 := hsz s0 (by simp)
      have z1 : s1.size ≤ 20000 := hsz s1 (by simp)
      have z2 : s2.size ≤ 20000 := hsz s2 (by simp)
      have HRZ : Hid (∀ r ∈ rows, r.size ≤ 20000) := fun r hr => hsz r (by simp [hr])
      have hrl : rows.length ≤ 57 := by simp at h60; omega
      clear hl hsz
      obtain ⟨b27, h27⟩ : ∃ b, decide (s0.size = 27) = b := ⟨_, rfl⟩
      have H27 := Lib.hid h27
      obtain ⟨R, hRl⟩ : ∃ R, rows.length = R := ⟨_, rfl⟩
      have HRL := Lib.hid hRl
      rw [hRl] at hrl
      have HH : Hid (∀ W : World, Calls Try.prog 105 #[.string s2] W fun e w' => ∃ ao n cap, e = .returned (.tuple #[.slice ao n cap, .bool (fieldsF s2).isSome]) ∧ (∀ xs, fieldsF s2 = some xs → xs.length = n ∧ Mine W.heap.size w' ao (strs xs)) ∧ Below W.heap.size W w') := fun W => readFields_any s2 W (by omega)
      cases b27 with
      | false =>
        have HN := Lib.hid (rdI_size hF (of_decide_eq_false h27))
        clear hF h27 hRl h60
        go_enter Try.func76, Try.ntmps76
        go_wp2_with fail
        refine HR.out.mono ?_
        rintro e w1 ⟨p1, n1, c1, rfl, hx, hb1⟩
        obtain ⟨hn1, hnc1, hm1⟩ := hx _ rfl
        obtain rfl : n1 = R + 3 := by have := HRL.out; simp at hn1; omega
        obtain ⟨b1, o1, rfl, hc⟩ := hm1.at.get (by simp [strs])
        have d0 : w1.cell? ⟨b1, o1, none⟩ = some (.string s0) := hc 0 (by simp [strs])
        have d1 : w1.cell? ⟨b1, o1 + 1, none⟩ = some (.string s1) := hc 1 (by simp [strs])
        have d2 : w1.cell? ⟨b1, o1 + 2, none⟩ = some (.string s2) := hc 2 (by simp [strs])
        have hbl : b1 < w1.heap.size := World.block_lt_of_cell? w1 _ d0
        have HROW : Hid (∀ j (hj : j < rows.length), w1.cell? ⟨b1, o1 + 3 + j, none⟩ = some (.string rows[j])) := fun j hj => by have := hc (3 + j) (by simp [strs]; omega); rw [show o1 + (3 + j) = o1 + 3 + j from by omega] at this; rw [this]; simp [strs, Nat.add_comm 3 j]
        have hz1 : w.heap.size + 1 ≤ w1.heap.size := by have := hb1.size; simpa using this
        have B1 : Below w.heap.size w w1 := hb0.trans (hb1.mono (by simp))
        have X1 := Lib.hid (box_below (box_new w (.cells #[.int .i64 0, .int .i64 0, .int .i64 0, .int .i64 0, .int .i64 0, .int .i64 0, .int .i64 0, .int .i64 0, .int .i64 0, .string ⟨#[]⟩, .slice none 0 0, .slice none 0 0] 42)) hb1 (by simp))
        have i0 : ¬ ((R : Int) + 3 < 3) := by omega
        have i11 : (1 : Int) < (R : Int) + 3 := by omega
        clear hx hm1 hn1 hc hb1
        go_wp2_with fail
        refine (someNine_any s0 _ w1 (by omega) H27.out).mono ?_
        rintro e w2 ⟨p2, n2, c2, rfl, hx2, hb2⟩
        have hz2 := hb2.size
        have B2 : Below w.heap.size w w2 := B1.trans (hb2.mono (by omega))
        have X2 := Lib.hid (box_below X1.out hb2 (by omega))
        have e1 : w2.cell? ⟨b1, o1 + 1, none⟩ = some (.string s1) := (hb2.cell (p := ⟨b1, o1 + 1, none⟩) hbl).trans d1
        have e2 : w2.cell? ⟨b1, o1 + 2, none⟩ = some (.string s2) := (hb2.cell (p := ⟨b1, o1 + 2, none⟩) hbl).trans d2
        clear hx2 hb2 d0 d1 d2 e1
        go_wp2_with fail
        refine (HH.out w2).mono ?_
        rintro e w3 ⟨aH, nH, cH, rfl, hx3, hb3⟩
        have hz3 := hb3.size
        have B3 : Below w.heap.size w w3 := B2.trans (hb3.mono (by omega))
        have X3 := Lib.hid (box_below X2.out hb3 (by omega))
        clear hx3 hb3 e2
        have x3 := box_cells X3.out
        have f3 := box_free X3.out
        go_wp2
        exact bodyPost_ret (v := .tuple #[.agg #[.int .i64 0, .int .i64 0, .int .i64 0, .int .i64 0, .int .i64 0, .int .i64 0, .int .i64 0, .int .i64 0, .int .i64 0, .string ⟨#[]⟩, .slice none 0 0, .slice none 0 0], .bool false]) (by simp [results, Try.results76, x3, go_sem]) rfl (rsPost_none HN.out rfl (set12_below B3 (Nat.le_refl _) _ _ _ _ _ _ _ _ _ _ _ _))
      | true =>
        cases hH : fieldsF s2 with
        | none =>
          have HN := Lib.hid (rdI_hist hF hH)
          rw [hH] at HH
          clear hF h27 hRl h60 hH
          go_enter Try.func76, Try.ntmps76
          go_wp2_with fail
          refine HR.out.mono ?_
          rintro e w1 ⟨p1, n1, c1, rfl, hx, hb1⟩
          obtain ⟨hn1, hnc1, hm1⟩ := hx _ rfl
          obtain rfl : n1 = R + 3 := by have := HRL.out; simp at hn1; omega
          obtain ⟨b1, o1, rfl, hc⟩ := hm1.at.get (by simp [strs])
          have d0 : w1.cell? ⟨b1, o1, none⟩ = some (.string s0) := hc 0 (by simp [strs])
          have d1 : w1.cell? ⟨b1, o1 + 1, none⟩ = some (.string s1) := hc 1 (by simp [strs])
          have d2 : w1.cell? ⟨b1, o1 + 2, none⟩ = some (.string s2) := hc 2 (by simp [strs])
          have hbl : b1 < w1.heap.size := World.block_lt_of_cell? w1 _ d0
          have HROW : Hid (∀ j (hj : j < rows.length), w1.cell? ⟨b1, o1 + 3 + j, none⟩ = some (.string rows[j])) := fun j hj => by have := hc (3 + j) (by simp [strs]; omega); rw [show o1 + (3 + j) = o1 + 3 + j from by omega] at this; rw [this]; simp [strs, Nat.add_comm 3 j]
          have hz1 : w.heap.size + 1 ≤ w1.heap.size := by have := hb1.size; simpa using this
          have B1 : Below w.heap.size w w1 := hb0.trans (hb1.mono (by simp))
          have X1 := Lib.hid (box_below (box_new w (.cells #[.int .i64 0, .int .i64 0, .int .i64 0, .int .i64 0, .int .i64 0, .int .i64 0, .int .i64 0, .int .i64 0, .int .i64 0, .string ⟨#[]⟩, .slice none 0 0, .slice none 0 0] 42)) hb1 (by simp))
          have i0 : ¬ ((R : Int) + 3 < 3) := by omega
          have i11 : (1 : Int) < (R : Int) + 3 := by omega
          clear hx hm1 hn1 hc hb1
          go_wp2_with fail
          refine (someNine_any s0 _ w1 (by omega) H27.out).mono ?_
          rintro e w2 ⟨p2, n2, c2, rfl, hx2, hb2⟩
          have hz2 := hb2.size
          have B2 : Below w.heap.size w w2 := B1.trans (hb2.mono (by omega))
          have X2 := Lib.hid (box_below X1.out hb2 (by omega))
          have e1 : w2.cell? ⟨b1, o1 + 1, none⟩ = some (.string s1) := (hb2.cell (p := ⟨b1, o1 + 1, none⟩) hbl).trans d1
          have e2 : w2.cell? ⟨b1, o1 + 2, none⟩ = some (.string s2) := (hb2.cell (p := ⟨b1, o1 + 2, none⟩) hbl).trans d2
          clear hx2 hb2 d0 d1 d2 e1
          go_wp2_with fail
          refine (HH.out w2).mono ?_
          rintro e w3 ⟨aH, nH, cH, rfl, hx3, hb3⟩
          have hz3 := hb3.size
          have B3 : Below w.heap.size w w3 := B2.trans (hb3.mono (by omega))
          have X3 := Lib.hid (box_below X2.out hb3 (by omega))
          clear hx3 hb3 e2
          have x3 := box_cells X3.out
          have f3 := box_free X3.out
          go_wp2
          exact bodyPost_ret (v := .tuple #[.agg #[.int .i64 0, .int .i64 0, .int .i64 0, .int .i64 0, .int .i64 0, .int .i64 0, .int .i64 0, .int .i64 0, .int .i64 0, .string ⟨#[]⟩, .slice none 0 0, .slice none 0 0], .bool false]) (by simp [results, Try.results76, x3, go_sem]) rfl (rsPost_none HN.out rfl (set12_below B3 (Nat.le_refl _) _ _ _ _ _ _ _ _ _ _ _ _))
        | some hs' =>
          obtain ⟨a0, a1, a2, a3, a4, a5, a6, a7, a8, hns⟩ := nine (readL 9 s0.data.toList) (length_readL _ _)
          have HRD := Lib.hid (rdI_main hF (of_decide_eq_true h27) hH hns)
          have HNS := Lib.hid hns
          have hz60 := fieldsF_len hH
          have HHZ := Lib.hid (fieldsF_each hH)
          rw [hH] at HH
          obtain ⟨q, hq⟩ : ∃ q, rdI s = q := ⟨_, rfl⟩
          rw [hq] at HRD ⊢
          clear hF h27 hRl h60 hH hns hq
          go_enter Try.func76, Try.ntmps76
          go_wp2_with fail
          refine HR.out.mono ?_
          rintro e w1 ⟨p1, n1, c1, rfl, hx, hb1⟩
          obtain ⟨hn1, hnc1, hm1⟩ := hx _ rfl
          obtain rfl : n1 = R + 3 := by have := HRL.out; simp at hn1; omega
          obtain ⟨b1, o1, rfl, hc⟩ := hm1.at.get (by simp [strs])
          have d0 : w1.cell? ⟨b1, o1, none⟩ = some (.string s0) := hc 0 (by simp [strs])
          have d1 : w1.cell? ⟨b1, o1 + 1, none⟩ = some (.string s1) := hc 1 (by simp [strs])
          have d2 : w1.cell? ⟨b1, o1 + 2, none⟩ = some (.string s2) := hc 2 (by simp [strs])
          have hbl : b1 < w1.heap.size := World.block_lt_of_cell? w1 _ d0
          have HROW : Hid (∀ j (hj : j < rows.length), w1.cell? ⟨b1, o1 + 3 + j, none⟩ = some (.string rows[j])) := fun j hj => by have := hc (3 + j) (by simp [strs]; omega); rw [show o1 + (3 + j) = o1 + 3 + j from by omega] at this; rw [this]; simp [strs, Nat.add_comm 3 j]
          have hz1 : w.heap.size + 1 ≤ w1.heap.size := by have := hb1.size; simpa using this
          have B1 : Below w.heap.size w w1 := hb0.trans (hb1.mono (by simp))
          have X1 := Lib.hid (box_below (box_new w (.cells #[.int .i64 0, .int .i64 0, .int .i64 0, .int .i64 0, .int .i64 0, .int .i64 0, .int .i64 0, .int .i64 0, .int .i64 0, .string ⟨#[]⟩, .slice none 0 0, .slice none 0 0] 42)) hb1 (by simp))
          have i0 : ¬ ((R : Int) + 3 < 3) := by omega
          have i11 : (1 : Int) < (R : Int) + 3 := by omega
          clear hx hm1 hn1 hc hb1
          go_wp2_with fail
          refine (someNine_any s0 _ w1 (by omega) H27.out).mono ?_
          rintro e w2 ⟨p2, n2, c2, rfl, hx2, hb2⟩
          have hz2 := hb2.size
          have B2 : Below w.heap.size w w2 := B1.trans (hb2.mono (by omega))
          have X2 := Lib.hid (box_below X1.out hb2 (by omega))
          have e1 : w2.cell? ⟨b1, o1 + 1, none⟩ = some (.string s1) := (hb2.cell (p := ⟨b1, o1 + 1, none⟩) hbl).trans d1
          have e2 : w2.cell? ⟨b1, o1 + 2, none⟩ = some (.string s2) := (hb2.cell (p := ⟨b1, o1 + 2, none⟩) hbl).trans d2
          obtain ⟨rfl, hm2⟩ := hx2 rfl
          rw [HNS.out] at hm2
          obtain ⟨b2, o2, rfl, hc⟩ := hm2.at.get (by simp [i64s])
          have g0 : w2.cell? ⟨b2, o2, none⟩ = some (.int .i64 a0) := hc 0 (by simp [i64s])
          have g1 : w2.cell? ⟨b2, o2 + 1, none⟩ = some (.int .i64 a1) := hc 1 (by simp [i64s])
          have g2 : w2.cell? ⟨b2, o2 + 2, none⟩ = some (.int .i64 a2) := hc 2 (by simp [i64s])
          have g3 : w2.cell? ⟨b2, o2 + 3, none⟩ = some (.int .i64 a3) := hc 3 (by simp [i64s])
          have g4 : w2.cell? ⟨b2, o2 + 4, none⟩ = some (.int .i64 a4) := hc 4 (by simp [i64s])
          have g5 : w2.cell? ⟨b2, o2 + 5, none⟩ = some (.int .i64 a5) := hc 5 (by simp [i64s])
          have g6 : w2.cell? ⟨b2, o2 + 6, none⟩ = some (.int .i64 a6) := hc 6 (by simp [i64s])
          have g7 : w2.cell? ⟨b2, o2 + 7, none⟩ = some (.int .i64 a7) := hc 7 (by simp [i64s])
          have g8 : w2.cell? ⟨b2, o2 + 8, none⟩ = some (.int .i64 a8) := hc 8 (by simp [i64s])
          have hb2l : b2 < w2.heap.size := World.block_lt_of_cell? w2 _ g0
          clear hc hm2 d0 d1 d2 hx2
          go_wp2_with fail
          refine (HH.out w2).mono ?_
          rintro e w3 ⟨aH, nH, cH, rfl, hx3, hb3⟩
          have hz3 := hb3.size
          have B3 : Below w.heap.size w w3 := B2.trans (hb3.mono (by omega))
          have X3 := Lib.hid (box_below X2.out hb3 (by omega))
          obtain ⟨hn3, hm3⟩ := hx3 _ rfl
          have HM3 := Lib.hid hm3
          have HNH := Lib.hid hn3
          have k0 : w3.cell? ⟨b2, o2, none⟩ = some (.int .i64 a0) := (hb3.cell (p := ⟨b2, o2, none⟩) hb2l).trans g0
          have k1 : w3.cell? ⟨b2, o2 + 1, none⟩ = some (.int .i64 a1) := (hb3.cell (p := ⟨b2, o2 + 1, none⟩) hb2l).trans g1
          have k2 : w3.cell? ⟨b2, o2 + 2, none⟩ = some (.int .i64 a2) := (hb3.cell (p := ⟨b2, o2 + 2, none⟩) hb2l).trans g2
          have k3 : w3.cell? ⟨b2, o2 + 3, none⟩ = some (.int .i64 a3) := (hb3.cell (p := ⟨b2, o2 + 3, none⟩) hb2l).trans g3
          have k4 : w3.cell? ⟨b2, o2 + 4, none⟩ = some (.int .i64 a4) := (hb3.cell (p := ⟨b2, o2 + 4, none⟩) hb2l).trans g4
          have k5 : w3.cell? ⟨b2, o2 + 5, none⟩ = some (.int .i64 a5) := (hb3.cell (p := ⟨b2, o2 + 5, none⟩) hb2l).trans g5
          have k6 : w3.cell? ⟨b2, o2 + 6, none⟩ = some (.int .i64 a6) := (hb3.cell (p := ⟨b2, o2 + 6, none⟩) hb2l).trans g6
          have k7 : w3.cell? ⟨b2, o2 + 7, none⟩ = some (.int .i64 a7) := (hb3.cell (p := ⟨b2, o2 + 7, none⟩) hb2l).trans g7
          have k8 : w3.cell? ⟨b2, o2 + 8, none⟩ = some (.int .i64 a8) := (hb3.cell (p := ⟨b2, o2 + 8, none⟩) hb2l).trans g8
          have k9 : w3.cell? ⟨b1, o1 + 1, none⟩ = some (.string s1) := (hb3.cell (p := ⟨b1, o1 + 1, none⟩) (show b1 < w2.heap.size by omega)).trans e1
          have HROW3 : Hid (∀ j (hj : j < rows.length), w3.cell? ⟨b1, o1 + 3 + j, none⟩ = some (.string rows[j])) := fun j hj => (hb3.cell (p := ⟨b1, o1 + 3 + j, none⟩) (show b1 < w2.heap.size by omega)).trans ((hb2.cell (p := ⟨b1, o1 + 3 + j, none⟩) hbl).trans (HROW.out j hj))
          have hb1l : b1 < w3.heap.size := by omega
          clear hx3 hn3 hm3 hb2 hb3 e1 e2 HROW B1 B2 X1 X2 g0 g1 g2 g3 g4 g5 g6 g7 g8
          go_wp2_with fail
          have ne0 := World.new_ne w3 _ k0
          have ne1 := World.new_ne w3 _ k1
          have ne2 := World.new_ne w3 _ k2
          have ne3 := World.new_ne w3 _ k3
          have ne4 := World.new_ne w3 _ k4
          have ne5 := World.new_ne w3 _ k5
          have ne6 := World.new_ne w3 _ k6
          have ne7 := World.new_ne w3 _ k7
          have ne8 := World.new_ne w3 _ k8
          have ne9 := World.new_ne w3 _ k9
          go_region_held3 (fun w' => w'.cell? ⟨b2, o2, none⟩ = some (.int .i64 a0) ∧ w'.cell? ⟨b2, o2 + 1, none⟩ = some (.int .i64 a1) ∧ w'.cell? ⟨b2, o2 + 2, none⟩ = some (.int .i64 a2) ∧ w'.cell? ⟨b2, o2 + 3, none⟩ = some (.int .i64 a3) ∧ w'.cell? ⟨b2, o2 + 4, none⟩ = some (.int .i64 a4) ∧ w'.cell? ⟨b2, o2 + 5, none⟩ = some (.int .i64 a5) ∧ w'.cell? ⟨b2, o2 + 6, none⟩ = some (.int .i64 a6) ∧ w'.cell? ⟨b2, o2 + 7, none⟩ = some (.int .i64 a7) ∧ w'.cell? ⟨b2, o2 + 8, none⟩ = some (.int .i64 a8) ∧ w'.cell? ⟨b1, o1 + 1, none⟩ = some (.string s1)) (go_keep) (fail)
          have X4 : Hid ((w3.alloc (.cells #[.int .i64 a0, .int .i64 a1, .int .i64 a2, .int .i64 a3, .int .i64 a4, .int .i64 a5, .int .i64 a6, .int .i64 a7, .int .i64 a8, .string s1, .slice none 0 0, .slice aH nH cH] 42)).drew.heap[w.heap.size]? = some (.cells #[.int .i64 0, .int .i64 0, .int .i64 0, .int .i64 0, .int .i64 0, .int .i64 0, .int .i64 0, .int .i64 0, .int .i64 0, .string ⟨#[]⟩, .slice none 0 0, .slice none 0 0] 42)) := (Below.heap_alloc w3 _ w.heap.size (by have := box_lt X3.out; omega)).trans X3.out
          have Y4 : Hid ((w3.alloc (.cells #[.int .i64 a0, .int .i64 a1, .int .i64 a2, .int .i64 a3, .int .i64 a4, .int .i64 a5, .int .i64 a6, .int .i64 a7, .int .i64 a8, .string s1, .slice none 0 0, .slice aH nH cH] 42)).drew.heap[w3.heap.size]? = some (.cells #[.int .i64 a0, .int .i64 a1, .int .i64 a2, .int .i64 a3, .int .i64 a4, .int .i64 a5, .int .i64 a6, .int .i64 a7, .int .i64 a8, .string s1, .slice none 0 0, .slice aH nH cH] 42)) := box_new w3 _
          have hz4 : w3.heap.size + 1 ≤ (w3.alloc (.cells #[.int .i64 a0, .int .i64 a1, .int .i64 a2, .int .i64 a3, .int .i64 a4, .int .i64 a5, .int .i64 a6, .int .i64 a7, .int .i64 a8, .string s1, .slice none 0 0, .slice aH nH cH] 42)).drew.heap.size := by show _ ≤ (w3.alloc _).heap.size; simp
          have B4 : Below w.heap.size w (w3.alloc (.cells #[.int .i64 a0, .int .i64 a1, .int .i64 a2, .int .i64 a3, .int .i64 a4, .int .i64 a5, .int .i64 a6, .int .i64 a7, .int .i64 a8, .string s1, .slice none 0 0, .slice aH nH cH] 42)).drew := (B3.alloc B3.size _).drew
          have hb4 : Below w3.heap.size w3 (w3.alloc (.cells #[.int .i64 a0, .int .i64 a1, .int .i64 a2, .int .i64 a3, .int .i64 a4, .int .i64 a5, .int .i64 a6, .int .i64 a7, .int .i64 a8, .string s1, .slice none 0 0, .slice aH nH cH] 42)).drew := ((Below.refl _ _).alloc (Nat.le_refl _) _).drew
          have HB34 : Hid (Below w3.heap.size w3 (w3.alloc (.cells #[.int .i64 a0, .int .i64 a1, .int .i64 a2, .int .i64 a3, .int .i64 a4, .int .i64 a5, .int .i64 a6, .int .i64 a7, .int .i64 a8, .string s1, .slice none 0 0, .slice aH nH cH] 42)).drew) := hb4
          have HROW4 : Hid (∀ j (hj : j < rows.length), (w3.alloc (.cells #[.int .i64 a0, .int .i64 a1, .int .i64 a2, .int .i64 a3, .int .i64 a4, .int .i64 a5, .int .i64 a6, .int .i64 a7, .int .i64 a8, .string s1, .slice none 0 0, .slice aH nH cH] 42)).drew.cell? ⟨b1, o1 + 3 + j, none⟩ = some (.string rows[j])) := fun j hj => (hb4.cell (p := ⟨b1, o1 + 3 + j, none⟩) hb1l).trans (HROW3.out j hj)
          have HAH : Hid (blk aH = none ∨ ∃ j, blk aH = some j ∧ j < w3.heap.size ∨ strs hs' = []) := by rcases HM3.out with h | ⟨u, v, rfl, hu, hcc⟩; exact .inr ⟨0, .inr h⟩; exact if hne : strs hs' = [] then .inr ⟨0, .inr hne⟩ else .inr ⟨u, .inl ⟨rfl, World.block_lt_of_cell? w3 _ (hcc 0 (List.length_pos_iff.mpr hne)).1⟩⟩
          clear ne0 ne1 ne2 ne3 ne4 ne5 ne6 ne7 ne8 ne9 k0 k1 k2 k3 k4 k5 k6 k7 k8 k9 X3 B3 hb4 HROW3
          rename_i hheld
          clear hheld
          generalize (w3.alloc (.cells #[.int .i64 a0, .int .i64 a1, .int .i64 a2, .int .i64 a3, .int .i64 a4, .int .i64 a5, .int .i64 a6, .int .i64 a7, .int .i64 a8, .string s1, .slice none 0 0, .slice aH nH cH] 42)).drew = V at *
          generalize hsb : w3.heap.size = sb at *
          have hsb2 : w.heap.size < sb := by omega
          have hob : b1 < sb := by omega
          have hw3 : w3.heap.size ≤ sb := Nat.le_of_eq hsb
          clear hsb hb1l
          have yV := box_cells Y4.out
          by_cases hc3 : c1 = 3
          case pos =>
            have i1 : (3 : Int) ≤ (R : Int) + 3 := by omega
            have i2 : R + 3 - 3 = R := by omega
            go_wp2_with fail
            clear yV
            go_loopw [81] (fun i wr => ∃ k : Nat, k ≤ R ∧ i = .int .i64 k ∧ ∃ (aC : Option Addr) (n cap : Nat), n ≤ 5000 * k ∧ Hid ((rowsV (rows.take k)).length = n) ∧ n ≤ cap ∧ wr.heap[sb]? = some (.cells #[.int .i64 a0, .int .i64 a1, .int .i64 a2, .int .i64 a3, .int .i64 a4, .int .i64 a5, .int .i64 a6, .int .i64 a7, .int .i64 a8, .string s1, .slice aC n cap, .slice aH nH cH] 42) ∧ wr.ownsRow (sb + 1) 76 2 (.slice aC n cap) n (cellsV (rowsV (rows.take k))) ∧ Below sb V wr ∧ V.heap.size ≤ wr.heap.size) (fun i _ => R - (intOf i).toNat)
            case atStart => exact ⟨0, Nat.zero_le _, rfl, none, 0, 0, Nat.zero_le _, rfl, Nat.le_refl _, Y4.out, World.ownsRow_nil _ _ _ _, Below.refl _ _, Nat.le_refl _⟩
            case round =>
              obtain ⟨k, hk, rfl, aC, n, cap, hn5, HLN, hnc, gs, hown, hB, hzr⟩ := hrel
              clear Y4
              have hkt : ¬ k < R := by omega
              have htriv : True := trivial
              · have hkR : Hid (rows.take k = rows) := by show _ = _; exact List.take_of_length_le (by have := HRL.out; omega)
                rw [hkR.out] at hown HLN
                have i4 : (R : Int) ≤ (k : Int) := by omega
                have hz6 := hB.size
                have B6 : Below w.heap.size w wr := B4.trans (hB.mono (by omega))
                have X6 := Lib.hid (box_below X4.out hB (by omega))
                have HM6 := Lib.hid (HM3.out.below (HB34.out.trans hB) hw3)
                have HMC : Hid (Mine (sb + 1) wr aC (cellsV (rowsV rows))) := own_at hown
                have HAP : Hid (Apart aC (cellsV (rowsV rows)) aH (strs hs')) := by
                  rcases HMC.out with h | ⟨u, v, rfl, hu, _⟩
                  · exact .inl h
                  · rcases HAH.out with h | ⟨j, ⟨h, hj⟩ | h⟩
                    · exact .inr (.inr (by rw [h]; simp [blk]))
                    · exact .inr (.inr (by rw [h]; simp [blk]; omega))
                    · exact .inr (.inl h)
                have GS := Lib.hid gs
                have y6 := box_cells gs
                have hn9 : n ≤ 285000 := by omega
                clear hB hown gs X4 B4 HM3 HROW4
                cases hB' : scrB a0 a1 a2 a3 a4 a5 a6 a7 a8 s1 (rowsV rows) hs' with
                | false =>
                  have HO : Hid (q = none) := by show _ = _; rw [HRD.out, hB']; simp
                  have HBB := Lib.hid hB'
                  clear hB'
                  go_wp2_with fail
                  refine (isScr_is a0 a1 a2 a3 a4 a5 a6 a7 a8 s1 aC n cap (rowsV rows) aH nH cH hs' _ _ (by unfold maxLen; omega) HMC.out.at HLN.out (by unfold maxLen; omega) HM6.out.at HNH.out (by have := HNH.out; unfold maxLen; omega) (fun s hs => by have := HHZ.out s hs; unfold maxLen; omega) HBB.out).mono ?_
                  rintro e w7 ⟨rfl, hb7⟩
                  have hz7 := hb7.size
                  have B7 : Below w.heap.size w w7 := B6.trans (hb7.mono (by omega))
                  have X7 := Lib.hid (box_below X6.out hb7 (by omega))
                  clear hb7 y6
                  have x7 := box_cells X7.out
                  have f7 := box_free X7.out
                  go_wp2
                  exact bodyPost_ret (v := .tuple #[.agg #[.int .i64 0, .int .i64 0, .int .i64 0, .int .i64 0, .int .i64 0, .int .i64 0, .int .i64 0, .int .i64 0, .int .i64 0, .string ⟨#[]⟩, .slice none 0 0, .slice none 0 0], .bool false]) (by simp [results, Try.results76, x7, go_sem]) rfl (rsPost_none HO.out rfl (set12_below B7 (Nat.le_refl _) _ _ _ _ _ _ _ _ _ _ _ _))
                | true =>
                  have HBB := Lib.hid hB'
                  have HFT := Lib.hid (scrB_fits a0 a1 a2 a3 a4 a5 a6 a7 a8 s1 hB')
                  obtain ⟨L, hL⟩ : ∃ L, scrL a0 a1 a2 a3 a4 a5 a6 a7 a8 s1 (rowsV rows) hs' = L := ⟨_, rfl⟩
                  have HL := Lib.hid hL
                  rw [hB', hL] at HRD
                  clear hB' hL
                  by_cases hE : L = s.data.toList
                  · have HO : Hid (q = some ⟨a0, a1, a2, a3, a4, a5, a6, a7, a8, s1, rowsV rows, hs'⟩) := by show _ = _; rw [HRD.out, if_pos ⟨rfl, hE⟩]
                    have HTB : Hid ((⟨L.toArray⟩ : ByteArray) = s) := by show _ = _; apply ByteArray.ext; apply Array.toList_inj.1; exact hE
                    clear HRD
                    clear hE
                    go_wp2_with fail
                    refine (isScr_is a0 a1 a2 a3 a4 a5 a6 a7 a8 s1 aC n cap (rowsV rows) aH nH cH hs' _ _ (by unfold maxLen; omega) HMC.out.at HLN.out (by unfold maxLen; omega) HM6.out.at HNH.out (by have := HNH.out; unfold maxLen; omega) (fun s hs => by have := HHZ.out s hs; unfold maxLen; omega) HBB.out).mono ?_
                    rintro e w7 ⟨rfl, hb7⟩
                    have hz7 := hb7.size
                    have B7 : Below w.heap.size w w7 := B6.trans (hb7.mono (by omega))
                    have X7 := Lib.hid (box_below X6.out hb7 (by omega))
                    have Y7 := Lib.hid (box_below GS.out hb7 (by omega))
                    have y7 := box_cells Y7.out
                    have HMC7 := Lib.hid (HMC.out.below hb7 (Nat.le_refl _))
                    have HM7 := Lib.hid (HM6.out.below hb7 (Nat.le_refl _))
                    clear hb7 y6
                    go_wp2_with fail
                    refine (screenText_is a0 a1 a2 a3 a4 a5 a6 a7 a8 s1 aC n cap (rowsV rows) aH nH cH hs' L _ HMC7.out.at HM7.out.at hnc HLN.out HNH.out HFT.out HL.out).mono ?_
                    rintro e w8 ⟨rfl, hb8⟩
                    rw [HTB.out]
                    have hz8 := hb8.size
                    have B8 : Below w.heap.size w w8 := B7.trans (hb8.mono (by omega))
                    have X8 := Lib.hid (box_below X7.out hb8 (by omega))
                    have Y8 := Lib.hid (box_below Y7.out hb8 (by omega))
                    have y8 := box_cells Y8.out
                    have HMC8 := Lib.hid (HMC7.out.below hb8 (Nat.le_refl _))
                    have HM8 := Lib.hid (HM7.out.below hb8 (Nat.le_refl _))
                    clear hb8 y7 HMC7 HM7 HMC HM6
                    have x8 := box_cells X8.out
                    have f8 := box_free X8.out
                    trace_state
                    go_wp2
                    trace_state
                    exact bodyPost_ret (v := .tuple #[.agg #[.int .i64 a0, .int .i64 a1, .int .i64 a2, .int .i64 a3, .int .i64 a4, .int .i64 a5, .int .i64 a6, .int .i64 a7, .int .i64 a8, .string s1, .slice aC n cap, .slice aH nH cH], .bool true]) (by simp [results, Try.results76, x8, go_sem]) rfl ⟨a0, a1, a2, a3, a4, a5, a6, a7, a8, s1, aC, n, cap, aH, nH, cH, (by rw [HO.out]; rfl), fun d hd => by (rw [HO.out] at hd; cases hd; exact ⟨rfl, HLN.out, hnc, HNH.out, HAP.out, (set12_mine HMC8.out (by omega) _ _ _ _ _ _ _ _ _ _ _ _).mono (by omega), (set12_mine HM8.out (by omega) _ _ _ _ _ _ _ _ _ _ _ _).mono (by omega)⟩), set12_below B8 (Nat.le_refl _) _ _ _ _ _ _ _ _ _ _ _ _⟩
                  · have HO : Hid (q = none) := by show _ = _; rw [HRD.out, if_neg (fun h => hE h.2)]
                    obtain ⟨TB, hTB⟩ : ∃ t : ByteArray, (⟨L.toArray⟩ : ByteArray) = t := ⟨_, rfl⟩
                    have HTB := Lib.hid hTB
                    have hnl : ¬ TB.toList = s.toList := fun h => hE (by rw [ByteArray.toList_eq, ByteArray.toList_eq, ← hTB] at h; exact h)
                    have q1 : (TB.toList == s.toList) = false := by simpa using hnl
                    have q2 : (TB.toList != s.toList) = true := by simpa using hnl
                    clear HRD hE hTB hnl
                    go_wp2_with fail
                    refine (isScr_is a0 a1 a2 a3 a4 a5 a6 a7 a8 s1 aC n cap (rowsV rows) aH nH cH hs' _ _ (by unfold maxLen; omega) HMC.out.at HLN.out (by unfold maxLen; omega) HM6.out.at HNH.out (by have := HNH.out; unfold maxLen; omega) (fun s hs => by have := HHZ.out s hs; unfold maxLen; omega) HBB.out).mono ?_
                    rintro e w7 ⟨rfl, hb7⟩
                    have hz7 := hb7.size
                    have B7 : Below w.heap.size w w7 := B6.trans (hb7.mono (by omega))
                    have X7 := Lib.hid (box_below X6.out hb7 (by omega))
                    have Y7 := Lib.hid (box_below GS.out hb7 (by omega))
                    have y7 := box_cells Y7.out
                    have HMC7 := Lib.hid (HMC.out.below hb7 (Nat.le_refl _))
                    have HM7 := Lib.hid (HM6.out.below hb7 (Nat.le_refl _))
                    clear hb7 y6
                    go_wp2_with fail
                    refine (screenText_is a0 a1 a2 a3 a4 a5 a6 a7 a8 s1 aC n cap (rowsV rows) aH nH cH hs' L _ HMC7.out.at HM7.out.at hnc HLN.out HNH.out HFT.out HL.out).mono ?_
                    rintro e w8 ⟨rfl, hb8⟩
                    rw [HTB.out]
                    have hz8 := hb8.size
                    have B8 : Below w.heap.size w w8 := B7.trans (hb8.mono (by omega))
                    have X8 := Lib.hid (box_below X7.out hb8 (by omega))
                    have Y8 := Lib.hid (box_below Y7.out hb8 (by omega))
                    have y8 := box_cells Y8.out
                    have HMC8 := Lib.hid (HMC7.out.below hb8 (Nat.le_refl _))
                    have HM8 := Lib.hid (HM7.out.below hb8 (Nat.le_refl _))
                    clear hb8 y7 HMC7 HM7 HMC HM6
                    have x8 := box_cells X8.out
                    have f8 := box_free X8.out
                    go_wp2
                    exact bodyPost_ret (v := .tuple #[.agg #[.int .i64 0, .int .i64 0, .int .i64 0, .int .i64 0, .int .i64 0, .int .i64 0, .int .i64 0, .int .i64 0, .int .i64 0, .string ⟨#[]⟩, .slice none 0 0, .slice none 0 0], .bool false]) (by simp [results, Try.results76, x8, go_sem]) rfl (rsPost_none HO.out rfl (set12_below B8 (Nat.le_refl _) _ _ _ _ _ _ _ _ _ _ _ _))
          case neg =>
            have i1 : (3 : Int) ≤ (R : Int) + 3 := by omega
            have i2 : R + 3 - 3 = R := by omega
            go_wp2_with fail
            clear yV
            go_loopw [81] (fun i wr => ∃ k : Nat, k ≤ R ∧ i = .int .i64 k ∧ ∃ (aC : Option Addr) (n cap : Nat), n ≤ 5000 * k ∧ Hid ((rowsV (rows.take k)).length = n) ∧ n ≤ cap ∧ wr.heap[sb]? = some (.cells #[.int .i64 a0, .int .i64 a1, .int .i64 a2, .int .i64 a3, .int .i64 a4, .int .i64 a5, .int .i64 a6, .int .i64 a7, .int .i64 a8, .string s1, .slice aC n cap, .slice aH nH cH] 42) ∧ wr.ownsRow (sb + 1) 76 2 (.slice aC n cap) n (cellsV (rowsV (rows.take k))) ∧ Below sb V wr ∧ V.heap.size ≤ wr.heap.size) (fun i _ => R - (intOf i).toNat)
            case atStart => exact ⟨0, Nat.zero_le _, rfl, none, 0, 0, Nat.zero_le _, rfl, Nat.le_refl _, Y4.out, World.ownsRow_nil _ _ _ _, Below.refl _ _, Nat.le_refl _⟩
            case round =>
              obtain ⟨k, hk, rfl, aC, n, cap, hn5, HLN, hnc, gs, hown, hB, hzr⟩ := hrel
              clear Y4
              by_cases hkt : k < R
              · have hkr : k < rows.length := by have := HRL.out; omega
                obtain ⟨row, hrow⟩ : ∃ r, rows[k] = r := ⟨_, rfl⟩
                have crow : wr.cell? ⟨b1, o1 + 3 + k, none⟩ = some (.string row) := by rw [← hrow]; exact (hB.cell (p := ⟨b1, o1 + 3 + k, none⟩) hob).trans (HROW4.out k hkr)
                have hr5 : row.size ≤ 20000 := by rw [← hrow]; exact HRZ.out _ (List.getElem_mem hkr)
                have HTK : Hid (rowsV (rows.take (k + 1)) = rowsV (rows.take k) ++ unC (row.size / 4) row.data.toList) := by show _ = _; rw [rowsV_take rows k hkr, hrow]
                have i3 : (k : Int) < (R : Int) := by omega
                obtain ⟨P, hP⟩ : ∃ P, rowsV (rows.take k) = P := ⟨_, rfl⟩
                rw [hP] at hown HLN HTK
                obtain ⟨m, hm⟩ : ∃ m, m = n := ⟨_, rfl⟩
                have hm5 : m ≤ 5000 * k := by omega
                have HPL : Hid (P.length = m) := by show _ = _; rw [HLN.out, hm]
                have HMN : Hid (m = n) := hm
                clear hP hrow hm HLN
                have HIN : Hid (∃ (aC : Option Addr) (cap : Nat), m + 0 ≤ cap ∧ wr.heap[sb]? = some (.cells #[.int .i64 a0, .int .i64 a1, .int .i64 a2, .int .i64 a3, .int .i64 a4, .int .i64 a5, .int .i64 a6, .int .i64 a7, .int .i64 a8, .string s1, .slice aC (m + 0) cap, .slice aH nH cH] 42) ∧ wr.ownsRow (sb + 1) 76 2 (.slice aC (m + 0) cap) (m + 0) (cellsV (P ++ unC 0 row.data.toList))) := by rw [HMN.out, Nat.add_zero, show unC 0 row.data.toList = [] from rfl, List.append_nil]; exact ⟨aC, cap, hnc, gs, hown⟩
                clear gs hown hnc hn5 HMN
                go_wp2_with fail
                clear crow
                generalize wr = W5 at *
                go_loopw [11] (fun v wr => ∃ j : Nat, 4 * j ≤ row.size ∧ ∃ (r : ByteArray) (aC : Option Addr) (cap : Nat), v = .string r ∧ Hid (r.data.toList = row.data.toList.drop (4 * j)) ∧ m + j ≤ cap ∧ wr.heap[sb]? = some (.cells #[.int .i64 a0, .int .i64 a1, .int .i64 a2, .int .i64 a3, .int .i64 a4, .int .i64 a5, .int .i64 a6, .int .i64 a7, .int .i64 a8, .string s1, .slice aC (m + j) cap, .slice aH nH cH] 42) ∧ wr.ownsRow (sb + 1) 76 2 (.slice aC (m + j) cap) (m + j) (cellsV (P ++ unC j row.data.toList)) ∧ Below sb V wr ∧ V.heap.size ≤ wr.heap.size) (fun v _ => match v with | .string r => r.size | _ => 0)
                case atStart => obtain ⟨aC, cap, hnc, gs, hown⟩ := HIN.out; exact ⟨0, Nat.zero_le _, row, aC, cap, rfl, (by show _ = _; simp), hnc, gs, hown, hB, hzr⟩
                case round =>
                  obtain ⟨j, hj, r, aC, cap, rfl, hr, hnc, gs, hown, hB, hzr⟩ := hrel
                  clear HIN
                  have hrs : r.size = row.size - 4 * j := by rw [Lib.size_eq, hr.out, List.length_drop, ← Lib.size_eq]
                  by_cases h4 : 4 ≤ r.size
                  · have hx : Hid ((r.extract 0 3).data.toList = (row.data.toList.drop (4 * j)).take 3) := by show _ = _; rw [Lib.extract_data, hr.out]; simp
                    have hd : Hid ((r.extract 4 r.size).data.toList = row.data.toList.drop (4 * (j + 1))) := by
                      show _ = _
                      rw [Lib.extract_data, hr.out, List.drop_drop, show 4 * j + 4 = 4 * (j + 1) from by omega]
                      apply List.take_of_length_le
                      rw [List.length_drop, ← Lib.size_eq]; omega
                    obtain ⟨u, hu, hul⟩ : ∃ u : Nat, Hid (u = numL ((row.data.toList.drop (4 * j)).take 3)) ∧ u ≤ 16777215 := ⟨_, rfl, numL3 _ (by simp; omega)⟩
                    have h3r : 3 < r.size := by omega
                    have h3i : (3 : Int) ≤ (r.size : Int) := by omega
                    have h3j : (3 : Int) < (r.size : Int) := by omega
                    have h4i : (4 : Int) ≤ (r.size : Int) := by omega
                    have HRS := Lib.hid hrs
                    obtain ⟨c, hcv, hc5⟩ : ∃ c : Nat, Hid (c = r[3].toNat) ∧ c ≤ 255 := ⟨r[3].toNat, rfl, by have := r[3].toNat_lt; omega⟩
                    have hc1 : numL ((row.data.toList.drop (4 * j + 3)).take 1) = c := by
                      rw [← List.drop_drop, ← hr.out, numL_one (by rw [← Lib.size_eq]; exact h3r), hcv.out]; rfl
                    have HN : Hid (cellsV (P ++ unC (j + 1) row.data.toList) = cellsV (P ++ unC j row.data.toList) ++ [.int .i64 (u : Int), .int .i64 (c : Int)]) := by
                      show _ = _
                      rw [unC_snoc, ← List.append_assoc, cellsV_one_more, cellA, hc1, ← hu.out]
                    have hb3 : r[3].toNat = c := hcv.out.symm
                    have hnum := Lib.hid (bigNumber_any (r.extract 0 3) wr.drew (by simp [ByteArray.size_extract]; omega))
                    rw [hx.out, ← hu.out] at hnum
                    have hbs : sb + 1 ≤ wr.heap.size := by omega
                    have GS := Lib.hid gs
                    have yr : ∀ i, wr.drew.cell? ⟨sb, i, none⟩ = _ := box_cells gs
                    have hj5 : j ≤ 5000 := by omega
                    have ya : ∀ i, (wr.alloc (.cells #[.int .i64 (u : Int), .int .i64 (c : Int)] 76)).drew.cell? ⟨sb, i, none⟩ = _ := cells_alloc (box_cells gs) (show sb < wr.heap.size by omega) _
                    have HARM := Lib.hid (rs_arm (u := (u : Int)) (c := (c : Int)) gs hown hB (by omega))
                    have hcw : IntKind.i64.wrap (c : Int) = (c : Int) := by rw [IntKind.wrap_i64]; omega
                    have HOWN := Lib.hid hown
                    clear gs hnc hcv hc1 hr hx hrs
                    go_wp2_with fail
                    go_region_law (first
                      | (go_simp; go_at_call 107; refine hnum.out.mono ?_; rintro e w' ⟨rfl, rfl⟩; go_wp2_with fail)
                      | (refine step_append_lies _ rfl (.tmp 91) (.tmp 99) 40 rfl (sb + 1) 76 c0 (.agg #[.int .i64 0, .int .i64 0]) 2 16 Try.underlying40 hci hcz0 hcz1 hcz2 rfl (by decide) _ _ _ (by simp [Act.eval]) (HOWN.out.drew.alloc _) ⟨wr.heap.size, 0, none⟩ 1 1 [.int .i64 (u : Int), .int .i64 (c : Int)] (by simp [Act.eval]) rfl (fun j u hu => World.news_of_block (heap_alloc_new _ _) j u hu) (by intro u hu; simp at hu; rcases hu with rfl | rfl <;> rfl) (by decide) (by unfold maxLen; omega) (by omega) (by simp; omega) _ rfl ?_; intro g2 cap2 w2 hown2 hgrow2 hlie2 hlt2; obtain ⟨w3, e3, y2, f2, P3, hown3, hc3, hB3, hz3⟩ := HARM.out g2 cap2 w2 hown2 hgrow2; clear hown2 hgrow2 hlie2 hlt2))
                    all_goals
                      go_wp2
                      go_roundw
                      case rel => exact ⟨j + 1, (by have := HRS.out; omega), _, _, cap2, rfl, hd, hc3.out, P3.out, (by rw [HN.out]; exact hown3.out), hB3.out, hz3⟩
                      case measure => have := HRS.out; simp [ByteArray.size_extract]; omega
                  · have hjj : Hid (j = row.size / 4) := by show _ = _; omega
                    have hj5 : j ≤ 5000 := by omega
                    have hlt : ¬ (4 : Int) ≤ (r.size : Int) := by omega
                    clear hrs h4
                    go_wp2
                    go_roundw
                    case rel => exact ⟨k + 1, by omega, by go_num, aC, m + j, cap, by omega, (by show _ = _; rw [HTK.out, List.length_append, length_unC, HPL.out, hjj.out]), hnc, gs, (by rw [HTK.out, ← hjj.out]; exact hown), hB, hzr⟩
                    case measure => simp [intOf]; omega
              · have hkR : Hid (rows.take k = rows) := by show _ = _; exact List.take_of_length_le (by have := HRL.out; omega)
                rw [hkR.out] at hown HLN
                have i4 : (R : Int) ≤ (k : Int) := by omega
                have hz6 := hB.size
                have B6 : Below w.heap.size w wr := B4.trans (hB.mono (by omega))
                have X6 := Lib.hid (box_below X4.out hB (by omega))
                have HM6 := Lib.hid (HM3.out.below (HB34.out.trans hB) hw3)
                have HMC : Hid (Mine (sb + 1) wr aC (cellsV (rowsV rows))) := own_at hown
                have HAP : Hid (Apart aC (cellsV (rowsV rows)) aH (strs hs')) := by
                  rcases HMC.out with h | ⟨u, v, rfl, hu, _⟩
                  · exact .inl h
                  · rcases HAH.out with h | ⟨j, ⟨h, hj⟩ | h⟩
                    · exact .inr (.inr (by rw [h]; simp [blk]))
                    · exact .inr (.inr (by rw [h]; simp [blk]; omega))
                    · exact .inr (.inl h)
                have GS := Lib.hid gs
                have y6 := box_cells gs
                have hn9 : n ≤ 285000 := by omega
                clear hB hown gs X4 B4 HM3 HROW4
                cases hB' : scrB a0 a1 a2 a3 a4 a5 a6 a7 a8 s1 (rowsV rows) hs' with
                | false =>
                  have HO : Hid (q = none) := by show _ = _; rw [HRD.out, hB']; simp
                  have HBB := Lib.hid hB'
                  clear hB'
                  go_wp2_with fail
                  refine (isScr_is a0 a1 a2 a3 a4 a5 a6 a7 a8 s1 aC n cap (rowsV rows) aH nH cH hs' _ _ (by unfold maxLen; omega) HMC.out.at HLN.out (by unfold maxLen; omega) HM6.out.at HNH.out (by have := HNH.out; unfold maxLen; omega) (fun s hs => by have := HHZ.out s hs; unfold maxLen; omega) HBB.out).mono ?_
                  rintro e w7 ⟨rfl, hb7⟩
                  have hz7 := hb7.size
                  have B7 : Below w.heap.size w w7 := B6.trans (hb7.mono (by omega))
                  have X7 := Lib.hid (box_below X6.out hb7 (by omega))
                  clear hb7 y6
                  have x7 := box_cells X7.out
                  have f7 := box_free X7.out
                  go_wp2
                  exact bodyPost_ret (v := .tuple #[.agg #[.int .i64 0, .int .i64 0, .int .i64 0, .int .i64 0, .int .i64 0, .int .i64 0, .int .i64 0, .int .i64 0, .int .i64 0, .string ⟨#[]⟩, .slice none 0 0, .slice none 0 0], .bool false]) (by simp [results, Try.results76, x7, go_sem]) rfl (rsPost_none HO.out rfl (set12_below B7 (Nat.le_refl _) _ _ _ _ _ _ _ _ _ _ _ _))
                | true =>
                  have HBB := Lib.hid hB'
                  have HFT := Lib.hid (scrB_fits a0 a1 a2 a3 a4 a5 a6 a7 a8 s1 hB')
                  obtain ⟨L, hL⟩ : ∃ L, scrL a0 a1 a2 a3 a4 a5 a6 a7 a8 s1 (rowsV rows) hs' = L := ⟨_, rfl⟩
                  have HL := Lib.hid hL
                  rw [hB', hL] at HRD
                  clear hB' hL
                  by_cases hE : L = s.data.toList
                  · have HO : Hid (q = some ⟨a0, a1, a2, a3, a4, a5, a6, a7, a8, s1, rowsV rows, hs'⟩) := by show _ = _; rw [HRD.out, if_pos ⟨rfl, hE⟩]
                    have HTB : Hid ((⟨L.toArray⟩ : ByteArray) = s) := by show _ = _; apply ByteArray.ext; apply Array.toList_inj.1; exact hE
                    clear HRD
                    clear hE
                    go_wp2_with fail
                    refine (isScr_is a0 a1 a2 a3 a4 a5 a6 a7 a8 s1 aC n cap (rowsV rows) aH nH cH hs' _ _ (by unfold maxLen; omega) HMC.out.at HLN.out (by unfold maxLen; omega) HM6.out.at HNH.out (by have := HNH.out; unfold maxLen; omega) (fun s hs => by have := HHZ.out s hs; unfold maxLen; omega) HBB.out).mono ?_
                    rintro e w7 ⟨rfl, hb7⟩
                    have hz7 := hb7.size
                    have B7 : Below w.heap.size w w7 := B6.trans (hb7.mono (by omega))
                    have X7 := Lib.hid (box_below X6.out hb7 (by omega))
                    have Y7 := Lib.hid (box_below GS.out hb7 (by omega))
                    have y7 := box_cells Y7.out
                    have HMC7 := Lib.hid (HMC.out.below hb7 (Nat.le_refl _))
                    have HM7 := Lib.hid (HM6.out.below hb7 (Nat.le_refl _))
                    clear hb7 y6
                    go_wp2_with fail
                    refine (screenText_is a0 a1 a2 a3 a4 a5 a6 a7 a8 s1 aC n cap (rowsV rows) aH nH cH hs' L _ HMC7.out.at HM7.out.at hnc HLN.out HNH.out HFT.out HL.out).mono ?_
                    rintro e w8 ⟨rfl, hb8⟩
                    rw [HTB.out]
                    have hz8 := hb8.size
                    have B8 : Below w.heap.size w w8 := B7.trans (hb8.mono (by omega))
                    have X8 := Lib.hid (box_below X7.out hb8 (by omega))
                    have Y8 := Lib.hid (box_below Y7.out hb8 (by omega))
                    have y8 := box_cells Y8.out
                    have HMC8 := Lib.hid (HMC7.out.below hb8 (Nat.le_refl _))
                    have HM8 := Lib.hid (HM7.out.below hb8 (Nat.le_refl _))
                    clear hb8 y7 HMC7 HM7 HMC HM6
                    have x8 := box_cells X8.out
                    have f8 := box_free X8.out
                    trace_state
                    go_wp2
                    trace_state
                    exact bodyPost_ret (v := .tuple #[.agg #[.int .i64 a0, .int .i64 a1, .int .i64 a2, .int .i64 a3, .int .i64 a4, .int .i64 a5, .int .i64 a6, .int .i64 a7, .int .i64 a8, .string s1, .slice aC n cap, .slice aH nH cH], .bool true]) (by simp [results, Try.results76, x8, go_sem]) rfl ⟨a0, a1, a2, a3, a4, a5, a6, a7, a8, s1, aC, n, cap, aH, nH, cH, (by rw [HO.out]; rfl), fun d hd => by (rw [HO.out] at hd; cases hd; exact ⟨rfl, HLN.out, hnc, HNH.out, HAP.out, (set12_mine HMC8.out (by omega) _ _ _ _ _ _ _ _ _ _ _ _).mono (by omega), (set12_mine HM8.out (by omega) _ _ _ _ _ _ _ _ _ _ _ _).mono (by omega)⟩), set12_below B8 (Nat.le_refl _) _ _ _ _ _ _ _ _ _ _ _ _⟩
                  · have HO : Hid (q = none) := by show _ = _; rw [HRD.out, if_neg (fun h => hE h.2)]
                    obtain ⟨TB, hTB⟩ : ∃ t : ByteArray, (⟨L.toArray⟩ : ByteArray) = t := ⟨_, rfl⟩
                    have HTB := Lib.hid hTB
                    have hnl : ¬ TB.toList = s.toList := fun h => hE (by rw [ByteArray.toList_eq, ByteArray.toList_eq, ← hTB] at h; exact h)
                    have q1 : (TB.toList == s.toList) = false := by simpa using hnl
                    have q2 : (TB.toList != s.toList) = true := by simpa using hnl
                    clear HRD hE hTB hnl
                    go_wp2_with fail
                    refine (isScr_is a0 a1 a2 a3 a4 a5 a6 a7 a8 s1 aC n cap (rowsV rows) aH nH cH hs' _ _ (by unfold maxLen; omega) HMC.out.at HLN.out (by unfold maxLen; omega) HM6.out.at HNH.out (by have := HNH.out; unfold maxLen; omega) (fun s hs => by have := HHZ.out s hs; unfold maxLen; omega) HBB.out).mono ?_
                    rintro e w7 ⟨rfl, hb7⟩
                    have hz7 := hb7.size
                    have B7 : Below w.heap.size w w7 := B6.trans (hb7.mono (by omega))
                    have X7 := Lib.hid (box_below X6.out hb7 (by omega))
                    have Y7 := Lib.hid (box_below GS.out hb7 (by omega))
                    have y7 := box_cells Y7.out
                    have HMC7 := Lib.hid (HMC.out.below hb7 (Nat.le_refl _))
                    have HM7 := Lib.hid (HM6.out.below hb7 (Nat.le_refl _))
                    clear hb7 y6
                    go_wp2_with fail
                    refine (screenText_is a0 a1 a2 a3 a4 a5 a6 a7 a8 s1 aC n cap (rowsV rows) aH nH cH hs' L _ HMC7.out.at HM7.out.at hnc HLN.out HNH.out HFT.out HL.out).mono ?_
                    rintro e w8 ⟨rfl, hb8⟩
                    rw [HTB.out]
                    have hz8 := hb8.size
                    have B8 : Below w.heap.size w w8 := B7.trans (hb8.mono (by omega))
                    have X8 := Lib.hid (box_below X7.out hb8 (by omega))
                    have Y8 := Lib.hid (box_below Y7.out hb8 (by omega))
                    have y8 := box_cells Y8.out
                    have HMC8 := Lib.hid (HMC7.out.below hb8 (Nat.le_refl _))
                    have HM8 := Lib.hid (HM7.out.below hb8 (Nat.le_refl _))
                    clear hb8 y7 HMC7 HM7 HMC HM6
                    have x8 := box_cells X8.out
                    have f8 := box_free X8.out
                    go_wp2
                    exact bodyPost_ret (v := .tuple #[.agg #[.int .i64 0, .int .i64 0, .int .i64 0, .int .i64 0, .int .i64 0, .int .i64 0, .int .i64 0, .int .i64 0, .int .i64 0, .string ⟨#[]⟩, .slice none 0 0, .slice none 0 0], .bool false]) (by simp [results, Try.results76, x8, go_sem]) rfl (rsPost_none HO.out rfl (set12_below B8 (Nat.le_refl _) _ _ _ _ _ _ _ _ _ _ _ _))
end Go.Proofs.Ytfabclhcceooaaa
