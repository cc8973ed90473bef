/-
  Contract of l04Read of the reference. Condition: a bound on the length.
-/
import Derived.Test.YtfabclhcceooaaaRs2
namespace Go.Proofs.Ytfabclhcceooaaa
open Go.ChangeShapes Go.WideShapes Go.ChangeAt Go.RowKit
set_option linter.unusedVariables false
set_option linter.unusedSimpArgs false
set_option maxRecDepth 100000
attribute [local irreducible] wpList

set_option maxHeartbeats 8000000 in
theorem l04Read_any (s : ByteArray) (w : World) (hs : s.size ≤ 65536) :
    Calls Try.prog 74 #[.string s] w (RsPost w (rdJ s)) := by
  obtain ⟨c0, hci, hcz0, hcz1, hcz2⟩ := info_parts Try.info_cell
  have hb0 : Below w.heap.size w (w.alloc (.cells #[.int .i64 0, .int .i64 0, .int .i64 0, .int .i64 0, .int .i64 0, .int .i64 0, .int .i64 0, .int .i64 0, .int .i64 0, .string ⟨#[]⟩, .slice none 0 0, .slice none 0 0] 42)) := (Below.refl _ _).alloc (Nat.le_refl _) _
  have HR := Lib.hid (l02Read_any s (w.alloc (.cells #[.int .i64 0, .int .i64 0, .int .i64 0, .int .i64 0, .int .i64 0, .int .i64 0, .int .i64 0, .int .i64 0, .int .i64 0, .string ⟨#[]⟩, .slice none 0 0, .slice none 0 0] 42)) hs)
  cases hF : fieldsF s with
  | none =>
    have HN := Lib.hid (rdJ_none hF)
    rw [hF] at HR
    clear hF
    go_enter Try.func74, Try.ntmps74
    go_wp2_with fail
    refine HR.out.mono ?_
    rintro e w1 ⟨p1, n1, c1, rfl, _, hb1⟩
    have hz1 : w.heap.size + 1 ≤ w1.heap.size := by have := hb1.size; simpa using this
    have B1 : Below w.heap.size w w1 := hb0.trans (hb1.mono (by simp))
    have X1 := Lib.hid (box_below (box_new w (.cells #[.int .i64 0, .int .i64 0, .int .i64 0, .int .i64 0, .int .i64 0, .int .i64 0, .int .i64 0, .int .i64 0, .int .i64 0, .string ⟨#[]⟩, .slice none 0 0, .slice none 0 0] 42)) hb1 (by simp))
    clear hb1
    have x1 := box_cells X1.out
    have f1 := box_free X1.out
    go_wp2
    exact bodyPost_ret (v := .tuple #[.agg #[.int .i64 0, .int .i64 0, .int .i64 0, .int .i64 0, .int .i64 0, .int .i64 0, .int .i64 0, .int .i64 0, .int .i64 0, .string ⟨#[]⟩, .slice none 0 0, .slice none 0 0], .bool false]) (by simp [results, Try.results74, x1, go_sem]) rfl (rsPost_none HN.out rfl (set12_below B1 (Nat.le_refl _) _ _ _ _ _ _ _ _ _ _ _ _))
  | some zs =>
    have h60 := fieldsF_len hF
    rw [hF] at HR
    by_cases hl : zs.length < 3
    case pos =>
      have HN := Lib.hid (rdJ_few hF hl)
      clear hF
      go_enter Try.func74, Try.ntmps74
      go_wp2_with fail
      refine HR.out.mono ?_
      rintro e w1 ⟨p1, n1, c1, rfl, hx, hb1⟩
      have hn3 : (n1 : Int) < 3 := by have := (hx zs rfl).1; omega
      clear hx hl
      have hz1 : w.heap.size + 1 ≤ w1.heap.size := by have := hb1.size; simpa using this
      have B1 : Below w.heap.size w w1 := hb0.trans (hb1.mono (by simp))
      have X1 := Lib.hid (box_below (box_new w (.cells #[.int .i64 0, .int .i64 0, .int .i64 0, .int .i64 0, .int .i64 0, .int .i64 0, .int .i64 0, .int .i64 0, .int .i64 0, .string ⟨#[]⟩, .slice none 0 0, .slice none 0 0] 42)) hb1 (by simp))
      clear hb1
      have x1 := box_cells X1.out
      have f1 := box_free X1.out
      go_wp2
      exact bodyPost_ret (v := .tuple #[.agg #[.int .i64 0, .int .i64 0, .int .i64 0, .int .i64 0, .int .i64 0, .int .i64 0, .int .i64 0, .int .i64 0, .int .i64 0, .string ⟨#[]⟩, .slice none 0 0, .slice none 0 0], .bool false]) (by simp [results, Try.results74, x1, go_sem]) rfl (rsPost_none HN.out rfl (set12_below B1 (Nat.le_refl _) _ _ _ _ _ _ _ _ _ _ _ _))
    case neg =>
      obtain ⟨s0, s1, s2, rows, rfl⟩ := three_more zs hl
      have hsz := fieldsF_each hF
      have z0 : s0.size ≤ 20000 := hsz s0 (by simp)
      have z1 : s1.size ≤ 20000 := hsz s1 (by simp)
      have z2 : s2.size ≤ 20000 := hsz s2 (by simp)
      have HRZ : Hid (∀ r ∈ rows, r.size ≤ 20000) := fun r hr => hsz r (by simp [hr])
      have hrl : rows.length ≤ 57 := by simp at h60; omega
      clear hl hsz h60
      obtain ⟨R, hRl⟩ : ∃ R, rows.length = R := ⟨_, rfl⟩
      have HRL := Lib.hid hRl
      rw [hRl] at hrl
      have HH : Hid (∀ W : World, Calls Try.prog 100 #[.string s2] W fun e w' => ∃ ao n cap, e = .returned (.tuple #[.slice ao n cap, .bool (fieldsF s2).isSome]) ∧ (∀ xs, fieldsF s2 = some xs → xs.length = n ∧ Mine W.heap.size w' ao (strs xs)) ∧ Below W.heap.size W w') := fun W => l02Read_any s2 W (by omega)
      by_cases hm3 : s0.size % 3 ≠ 0
      case pos =>
        have HN := Lib.hid (rdJ_size hF (show s0.size ≠ 27 by omega))
        have HM3 := Lib.hid hm3
        clear hm3 hF hRl
        go_enter Try.func74, Try.ntmps74
        go_wp2_with fail
        refine HR.out.mono ?_
        rintro e w1 ⟨p1, n1, c1, rfl, hx, hb1⟩
        obtain ⟨hn1, hm1⟩ := hx _ rfl
        obtain rfl : n1 = R + 3 := by have := HRL.out; simp at hn1; omega
        obtain ⟨b1, o1, rfl, hc⟩ := hm1.at.get (by simp [strs])
        have d0 : w1.cell? ⟨b1, o1, none⟩ = some (.string s0) := hc 0 (by simp [strs])
        have d1 : w1.cell? ⟨b1, o1 + 1, none⟩ = some (.string s1) := hc 1 (by simp [strs])
        have d2 : w1.cell? ⟨b1, o1 + 2, none⟩ = some (.string s2) := hc 2 (by simp [strs])
        have hbl : b1 < w1.heap.size := World.block_lt_of_cell? w1 _ d0
        have HROW : Hid (∀ j (hj : j < rows.length), w1.cell? ⟨b1, o1 + 3 + j, none⟩ = some (.string rows[j])) := fun j hj => by have := hc (3 + j) (by simp [strs]; omega); rw [show o1 + (3 + j) = o1 + 3 + j from by omega] at this; rw [this]; simp [strs, Nat.add_comm 3 j]
        have hz1 : w.heap.size + 1 ≤ w1.heap.size := by have := hb1.size; simpa using this
        have B1 : Below w.heap.size w w1 := hb0.trans (hb1.mono (by simp))
        have X1 := Lib.hid (box_below (box_new w (.cells #[.int .i64 0, .int .i64 0, .int .i64 0, .int .i64 0, .int .i64 0, .int .i64 0, .int .i64 0, .int .i64 0, .int .i64 0, .string ⟨#[]⟩, .slice none 0 0, .slice none 0 0] 42)) hb1 (by simp))
        have i0 : ¬ ((R : Int) + 3 < 3) := by omega
        have i11 : (1 : Int) < (R : Int) + 3 := by omega
        clear hx hm1 hn1 hc hb1
        go_wp2_with fail
        refine (l02ReadNumbers_bad s0 w1 HM3.out (by omega)).mono ?_
        rintro e w2 ⟨p2, c2, rfl, hb2⟩
        have hz2 := hb2.size
        have B2 : Below w.heap.size w w2 := B1.trans (hb2.mono (by omega))
        have X2 := Lib.hid (box_below X1.out hb2 (by omega))
        have e1 : w2.cell? ⟨b1, o1 + 1, none⟩ = some (.string s1) := (hb2.cell (p := ⟨b1, o1 + 1, none⟩) hbl).trans d1
        have e2 : w2.cell? ⟨b1, o1 + 2, none⟩ = some (.string s2) := (hb2.cell (p := ⟨b1, o1 + 2, none⟩) hbl).trans d2
        clear hb2 d0 d1 d2 e1
        go_wp2_with fail
        refine (HH.out w2).mono ?_
        rintro e w3 ⟨aH, nH, cH, rfl, hx3, hb3⟩
        have hz3 := hb3.size
        have B3 : Below w.heap.size w w3 := B2.trans (hb3.mono (by omega))
        have X3 := Lib.hid (box_below X2.out hb3 (by omega))
        clear hx3 hb3 e2
        generalize (fieldsF s2).isSome = gd
        go_wp2_with fail
        go_quiet (fail)
        have hb4w : Below w3.heap.size w3 (w3.drewN nq) := below_drewN nq (Below.refl _ _)
        generalize w3.drewN nq = w4 at *
        have hz4 := hb4w.size
        have B4 : Below w.heap.size w w4 := B3.trans (hb4w.mono (by omega))
        have X4 := Lib.hid (box_below X3.out hb4w (by omega))
        clear hb4w
        have x4 := box_cells X4.out
        have f4 := box_free X4.out
        go_wp2
        exact bodyPost_ret (v := .tuple #[.agg #[.int .i64 0, .int .i64 0, .int .i64 0, .int .i64 0, .int .i64 0, .int .i64 0, .int .i64 0, .int .i64 0, .int .i64 0, .string ⟨#[]⟩, .slice none 0 0, .slice none 0 0], .bool false]) (by simp [results, Try.results74, x4, go_sem]) rfl (rsPost_none HN.out rfl (set12_below B4 (Nat.le_refl _) _ _ _ _ _ _ _ _ _ _ _ _))
      case neg =>
      obtain ⟨q3, hq3⟩ : ∃ q, s0.size = 3 * q := ⟨s0.size / 3, by omega⟩
      have HQ3 := Lib.hid hq3
      have hq20 : q3 ≤ 20000 := by omega
      by_cases hq9 : q3 = 9
      case neg =>
        have HN := Lib.hid (rdJ_size hF (show s0.size ≠ 27 by omega))
        have hq8 : ((q3 : Int) != 9) = true := by simp; omega
        have hq7 : ¬ ((q3 : Int) = 9) := by omega
        clear hm3 hF hRl hq3 hq9
        go_enter Try.func74, Try.ntmps74
        go_wp2_with fail
        refine HR.out.mono ?_
        rintro e w1 ⟨p1, n1, c1, rfl, hx, hb1⟩
        obtain ⟨hn1, hm1⟩ := hx _ rfl
        obtain rfl : n1 = R + 3 := by have := HRL.out; simp at hn1; omega
        obtain ⟨b1, o1, rfl, hc⟩ := hm1.at.get (by simp [strs])
        have d0 : w1.cell? ⟨b1, o1, none⟩ = some (.string s0) := hc 0 (by simp [strs])
        have d1 : w1.cell? ⟨b1, o1 + 1, none⟩ = some (.string s1) := hc 1 (by simp [strs])
        have d2 : w1.cell? ⟨b1, o1 + 2, none⟩ = some (.string s2) := hc 2 (by simp [strs])
        have hbl : b1 < w1.heap.size := World.block_lt_of_cell? w1 _ d0
        have HROW : Hid (∀ j (hj : j < rows.length), w1.cell? ⟨b1, o1 + 3 + j, none⟩ = some (.string rows[j])) := fun j hj => by have := hc (3 + j) (by simp [strs]; omega); rw [show o1 + (3 + j) = o1 + 3 + j from by omega] at this; rw [this]; simp [strs, Nat.add_comm 3 j]
        have hz1 : w.heap.size + 1 ≤ w1.heap.size := by have := hb1.size; simpa using this
        have B1 : Below w.heap.size w w1 := hb0.trans (hb1.mono (by simp))
        have X1 := Lib.hid (box_below (box_new w (.cells #[.int .i64 0, .int .i64 0, .int .i64 0, .int .i64 0, .int .i64 0, .int .i64 0, .int .i64 0, .int .i64 0, .int .i64 0, .string ⟨#[]⟩, .slice none 0 0, .slice none 0 0] 42)) hb1 (by simp))
        have i0 : ¬ ((R : Int) + 3 < 3) := by omega
        have i11 : (1 : Int) < (R : Int) + 3 := by omega
        clear hx hm1 hn1 hc hb1
        go_wp2_with fail
        refine (l02ReadNumbers_any s0 q3 w1 HQ3.out (by omega)).mono ?_
        rintro e w2 ⟨p2, c2, rfl, hm2, hb2⟩
        have hz2 := hb2.size
        have B2 : Below w.heap.size w w2 := B1.trans (hb2.mono (by omega))
        have X2 := Lib.hid (box_below X1.out hb2 (by omega))
        have e1 : w2.cell? ⟨b1, o1 + 1, none⟩ = some (.string s1) := (hb2.cell (p := ⟨b1, o1 + 1, none⟩) hbl).trans d1
        have e2 : w2.cell? ⟨b1, o1 + 2, none⟩ = some (.string s2) := (hb2.cell (p := ⟨b1, o1 + 2, none⟩) hbl).trans d2
        clear hm2 hb2 d0 d1 d2 e1
        go_wp2_with fail
        refine (HH.out w2).mono ?_
        rintro e w3 ⟨aH, nH, cH, rfl, hx3, hb3⟩
        have hz3 := hb3.size
        have B3 : Below w.heap.size w w3 := B2.trans (hb3.mono (by omega))
        have X3 := Lib.hid (box_below X2.out hb3 (by omega))
        clear hx3 hb3 e2
        generalize (fieldsF s2).isSome = gd
        cases gd
        all_goals
          go_wp2_with fail
          go_quiet (fail)
          have hb4w : Below w3.heap.size w3 (w3.drewN nq) := below_drewN nq (Below.refl _ _)
          generalize w3.drewN nq = w4 at *
          have hz4 := hb4w.size
          have B4 : Below w.heap.size w w4 := B3.trans (hb4w.mono (by omega))
          have X4 := Lib.hid (box_below X3.out hb4w (by omega))
          clear hb4w
          have x4 := box_cells X4.out
          have f4 := box_free X4.out
          go_wp2
          exact bodyPost_ret (v := .tuple #[.agg #[.int .i64 0, .int .i64 0, .int .i64 0, .int .i64 0, .int .i64 0, .int .i64 0, .int .i64 0, .int .i64 0, .int .i64 0, .string ⟨#[]⟩, .slice none 0 0, .slice none 0 0], .bool false]) (by simp [results, Try.results74, x4, go_sem]) rfl (rsPost_none HN.out rfl (set12_below B4 (Nat.le_refl _) _ _ _ _ _ _ _ _ _ _ _ _))
      case pos =>
      subst hq9
      cases hH : fieldsF s2 with
      | none =>
        have HN := Lib.hid (rdJ_hist hF hH)
        rw [hH] at HH
        clear hm3 hF hRl hH hq3
        go_enter Try.func74, Try.ntmps74
        go_wp2_with fail
        refine HR.out.mono ?_
        rintro e w1 ⟨p1, n1, c1, rfl, hx, hb1⟩
        obtain ⟨hn1, hm1⟩ := hx _ rfl
        obtain rfl : n1 = R + 3 := by have := HRL.out; simp at hn1; omega
        obtain ⟨b1, o1, rfl, hc⟩ := hm1.at.get (by simp [strs])
        have d0 : w1.cell? ⟨b1, o1, none⟩ = some (.string s0) := hc 0 (by simp [strs])
        have d1 : w1.cell? ⟨b1, o1 + 1, none⟩ = some (.string s1) := hc 1 (by simp [strs])
        have d2 : w1.cell? ⟨b1, o1 + 2, none⟩ = some (.string s2) := hc 2 (by simp [strs])
        have hbl : b1 < w1.heap.size := World.block_lt_of_cell? w1 _ d0
        have HROW : Hid (∀ j (hj : j < rows.length), w1.cell? ⟨b1, o1 + 3 + j, none⟩ = some (.string rows[j])) := fun j hj => by have := hc (3 + j) (by simp [strs]; omega); rw [show o1 + (3 + j) = o1 + 3 + j from by omega] at this; rw [this]; simp [strs, Nat.add_comm 3 j]
        have hz1 : w.heap.size + 1 ≤ w1.heap.size := by have := hb1.size; simpa using this
        have B1 : Below w.heap.size w w1 := hb0.trans (hb1.mono (by simp))
        have X1 := Lib.hid (box_below (box_new w (.cells #[.int .i64 0, .int .i64 0, .int .i64 0, .int .i64 0, .int .i64 0, .int .i64 0, .int .i64 0, .int .i64 0, .int .i64 0, .string ⟨#[]⟩, .slice none 0 0, .slice none 0 0] 42)) hb1 (by simp))
        have i0 : ¬ ((R : Int) + 3 < 3) := by omega
        have i11 : (1 : Int) < (R : Int) + 3 := by omega
        clear hx hm1 hn1 hc hb1
        go_wp2_with fail
        refine (l02ReadNumbers_any s0 9 w1 HQ3.out (by omega)).mono ?_
        rintro e w2 ⟨p2, c2, rfl, hm2, hb2⟩
        have hz2 := hb2.size
        have B2 : Below w.heap.size w w2 := B1.trans (hb2.mono (by omega))
        have X2 := Lib.hid (box_below X1.out hb2 (by omega))
        have e1 : w2.cell? ⟨b1, o1 + 1, none⟩ = some (.string s1) := (hb2.cell (p := ⟨b1, o1 + 1, none⟩) hbl).trans d1
        have e2 : w2.cell? ⟨b1, o1 + 2, none⟩ = some (.string s2) := (hb2.cell (p := ⟨b1, o1 + 2, none⟩) hbl).trans d2
        clear hm2 hb2 d0 d1 d2 e1
        go_wp2_with fail
        refine (HH.out w2).mono ?_
        rintro e w3 ⟨aH, nH, cH, rfl, hx3, hb3⟩
        have hz3 := hb3.size
        have B3 : Below w.heap.size w w3 := B2.trans (hb3.mono (by omega))
        have X3 := Lib.hid (box_below X2.out hb3 (by omega))
        clear hx3 hb3 e2
        go_wp2_with fail
        go_quiet (fail)
        have hb4w : Below w3.heap.size w3 (w3.drewN nq) := below_drewN nq (Below.refl _ _)
        generalize w3.drewN nq = w4 at *
        have hz4 := hb4w.size
        have B4 : Below w.heap.size w w4 := B3.trans (hb4w.mono (by omega))
        have X4 := Lib.hid (box_below X3.out hb4w (by omega))
        clear hb4w
        have x4 := box_cells X4.out
        have f4 := box_free X4.out
        go_wp2
        exact bodyPost_ret (v := .tuple #[.agg #[.int .i64 0, .int .i64 0, .int .i64 0, .int .i64 0, .int .i64 0, .int .i64 0, .int .i64 0, .int .i64 0, .int .i64 0, .string ⟨#[]⟩, .slice none 0 0, .slice none 0 0], .bool false]) (by simp [results, Try.results74, x4, go_sem]) rfl (rsPost_none HN.out rfl (set12_below B4 (Nat.le_refl _) _ _ _ _ _ _ _ _ _ _ _ _))
      | some hs' =>
        obtain ⟨a0, a1, a2, a3, a4, a5, a6, a7, a8, hns⟩ := nine (readL 9 s0.data.toList) (length_readL _ _)
        have HRD := Lib.hid (rdJ_main hF (by omega) hH hns)
        have HNS := Lib.hid hns
        have hz60 := fieldsF_len hH
        have HHZ := Lib.hid (fieldsF_each hH)
        have FULL := Lib.hid (fun (Wn Hn : Nat) (h0 : a0 = (Wn : Int)) (h1 : a1 = (Hn : Int)) (hZ : sizeB (Wn : Int) (Hn : Int) = true) (hl : rows.length = Hn) => l04Read_full s s0 s1 s2 rows hs' Wn Hn a2 a3 a4 a5 a6 a7 a8 w hs hF (by omega) hH (by rw [← h0, ← h1]; exact hns) hZ hl)
        rw [hH] at HH
        obtain ⟨q, hq⟩ : ∃ q, rdJ s = q := ⟨_, rfl⟩
        have HQ := Lib.hid hq
        rw [hq] at HRD ⊢
        clear hF hRl hH hns hq hm3 hq3
        cases hZ : sizeB a0 a1 with
        | false =>
          have HN : Hid (q = none) := by show _ = _; rw [HRD.out, if_neg (fun h => by rw [hZ] at h; cases h.1)]
          have HSZ := Lib.hid hZ
          clear hZ
          go_enter Try.func74, Try.ntmps74
          go_wp2_with fail
          refine HR.out.mono ?_
          rintro e w1 ⟨p1, n1, c1, rfl, hx, hb1⟩
          obtain ⟨hn1, hm1⟩ := hx _ rfl
          obtain rfl : n1 = R + 3 := by have := HRL.out; simp at hn1; omega
          obtain ⟨b1, o1, rfl, hc⟩ := hm1.at.get (by simp [strs])
          have d0 : w1.cell? ⟨b1, o1, none⟩ = some (.string s0) := hc 0 (by simp [strs])
          have d1 : w1.cell? ⟨b1, o1 + 1, none⟩ = some (.string s1) := hc 1 (by simp [strs])
          have d2 : w1.cell? ⟨b1, o1 + 2, none⟩ = some (.string s2) := hc 2 (by simp [strs])
          have hbl : b1 < w1.heap.size := World.block_lt_of_cell? w1 _ d0
          have HROW : Hid (∀ j (hj : j < rows.length), w1.cell? ⟨b1, o1 + 3 + j, none⟩ = some (.string rows[j])) := fun j hj => by have := hc (3 + j) (by simp [strs]; omega); rw [show o1 + (3 + j) = o1 + 3 + j from by omega] at this; rw [this]; simp [strs, Nat.add_comm 3 j]
          have hz1 : w.heap.size + 1 ≤ w1.heap.size := by have := hb1.size; simpa using this
          have B1 : Below w.heap.size w w1 := hb0.trans (hb1.mono (by simp))
          have X1 := Lib.hid (box_below (box_new w (.cells #[.int .i64 0, .int .i64 0, .int .i64 0, .int .i64 0, .int .i64 0, .int .i64 0, .int .i64 0, .int .i64 0, .int .i64 0, .string ⟨#[]⟩, .slice none 0 0, .slice none 0 0] 42)) hb1 (by simp))
          have i0 : ¬ ((R : Int) + 3 < 3) := by omega
          have i11 : (1 : Int) < (R : Int) + 3 := by omega
          clear hx hm1 hn1 hc hb1
          go_wp2_with fail
          refine (l02ReadNumbers_any s0 9 w1 HQ3.out (by omega)).mono ?_
          rintro e w2 ⟨p2, c2, rfl, hm2, hb2⟩
          have hz2 := hb2.size
          have B2 : Below w.heap.size w w2 := B1.trans (hb2.mono (by omega))
          have X2 := Lib.hid (box_below X1.out hb2 (by omega))
          have e1 : w2.cell? ⟨b1, o1 + 1, none⟩ = some (.string s1) := (hb2.cell (p := ⟨b1, o1 + 1, none⟩) hbl).trans d1
          have e2 : w2.cell? ⟨b1, o1 + 2, none⟩ = some (.string s2) := (hb2.cell (p := ⟨b1, o1 + 2, none⟩) hbl).trans d2
          rw [HNS.out] at hm2
          obtain ⟨b2, o2, rfl, hc⟩ := hm2.at.get (by simp [i64s])
          have g0 : w2.cell? ⟨b2, o2, none⟩ = some (.int .i64 a0) := hc 0 (by simp [i64s])
          have g1 : w2.cell? ⟨b2, o2 + 1, none⟩ = some (.int .i64 a1) := hc 1 (by simp [i64s])
          have g2 : w2.cell? ⟨b2, o2 + 2, none⟩ = some (.int .i64 a2) := hc 2 (by simp [i64s])
          have g3 : w2.cell? ⟨b2, o2 + 3, none⟩ = some (.int .i64 a3) := hc 3 (by simp [i64s])
          have g4 : w2.cell? ⟨b2, o2 + 4, none⟩ = some (.int .i64 a4) := hc 4 (by simp [i64s])
          have g5 : w2.cell? ⟨b2, o2 + 5, none⟩ = some (.int .i64 a5) := hc 5 (by simp [i64s])
          have g6 : w2.cell? ⟨b2, o2 + 6, none⟩ = some (.int .i64 a6) := hc 6 (by simp [i64s])
          have g7 : w2.cell? ⟨b2, o2 + 7, none⟩ = some (.int .i64 a7) := hc 7 (by simp [i64s])
          have g8 : w2.cell? ⟨b2, o2 + 8, none⟩ = some (.int .i64 a8) := hc 8 (by simp [i64s])
          have hb2l : b2 < w2.heap.size := World.block_lt_of_cell? w2 _ g0
          clear hc hm2 d0 d1 d2
          go_wp2_with fail
          refine (HH.out w2).mono ?_
          rintro e w3 ⟨aH, nH, cH, rfl, hx3, hb3⟩
          have hz3 := hb3.size
          have B3 : Below w.heap.size w w3 := B2.trans (hb3.mono (by omega))
          have X3 := Lib.hid (box_below X2.out hb3 (by omega))
          obtain ⟨hn3, hm3⟩ := hx3 _ rfl
          have HM3 := Lib.hid hm3
          have HNH := Lib.hid hn3
          have k0 : w3.cell? ⟨b2, o2, none⟩ = some (.int .i64 a0) := (hb3.cell (p := ⟨b2, o2, none⟩) hb2l).trans g0
          have k1 : w3.cell? ⟨b2, o2 + 1, none⟩ = some (.int .i64 a1) := (hb3.cell (p := ⟨b2, o2 + 1, none⟩) hb2l).trans g1
          have k2 : w3.cell? ⟨b2, o2 + 2, none⟩ = some (.int .i64 a2) := (hb3.cell (p := ⟨b2, o2 + 2, none⟩) hb2l).trans g2
          have k3 : w3.cell? ⟨b2, o2 + 3, none⟩ = some (.int .i64 a3) := (hb3.cell (p := ⟨b2, o2 + 3, none⟩) hb2l).trans g3
          have k4 : w3.cell? ⟨b2, o2 + 4, none⟩ = some (.int .i64 a4) := (hb3.cell (p := ⟨b2, o2 + 4, none⟩) hb2l).trans g4
          have k5 : w3.cell? ⟨b2, o2 + 5, none⟩ = some (.int .i64 a5) := (hb3.cell (p := ⟨b2, o2 + 5, none⟩) hb2l).trans g5
          have k6 : w3.cell? ⟨b2, o2 + 6, none⟩ = some (.int .i64 a6) := (hb3.cell (p := ⟨b2, o2 + 6, none⟩) hb2l).trans g6
          have k7 : w3.cell? ⟨b2, o2 + 7, none⟩ = some (.int .i64 a7) := (hb3.cell (p := ⟨b2, o2 + 7, none⟩) hb2l).trans g7
          have k8 : w3.cell? ⟨b2, o2 + 8, none⟩ = some (.int .i64 a8) := (hb3.cell (p := ⟨b2, o2 + 8, none⟩) hb2l).trans g8
          have k9 : w3.cell? ⟨b1, o1 + 1, none⟩ = some (.string s1) := (hb3.cell (p := ⟨b1, o1 + 1, none⟩) (show b1 < w2.heap.size by omega)).trans e1
          have HROW3 : Hid (∀ j (hj : j < rows.length), w3.cell? ⟨b1, o1 + 3 + j, none⟩ = some (.string rows[j])) := fun j hj => (hb3.cell (p := ⟨b1, o1 + 3 + j, none⟩) (show b1 < w2.heap.size by omega)).trans ((hb2.cell (p := ⟨b1, o1 + 3 + j, none⟩) hbl).trans (HROW.out j hj))
          have hb1l : b1 < w3.heap.size := by omega
          have hb2l3 : b2 < w3.heap.size := by omega
          clear hx3 hn3 hm3 hb2 hb3 e1 e2 HROW B1 B2 X1 X2 g0 g1 g2 g3 g4 g5 g6 g7 g8
          have HSZ2 : Hid (∀ W : World, Calls Try.prog 54 #[.int .i64 a0, .int .i64 a1] W fun e w' => e = .returned (.bool false) ∧ W = w') := fun W => by have h := l04Size_any a0 a1 W; rw [HSZ.out] at h; exact h
          go_wp2_with fail
          go_quiet (first | (go_at_call 54; exact quiet_eq (HSZ2.out _)) | fail)
          have hb4w : Below w3.heap.size w3 (w3.drewN nq) := below_drewN nq (Below.refl _ _)
          generalize w3.drewN nq = w4 at *
          have hz4 := hb4w.size
          have B4 : Below w.heap.size w w4 := B3.trans (hb4w.mono (by omega))
          have X4 := Lib.hid (box_below X3.out hb4w (by omega))
          have x4 := box_cells X4.out
          have f4 := box_free X4.out
          go_wp2
          exact bodyPost_ret (v := .tuple #[.agg #[.int .i64 0, .int .i64 0, .int .i64 0, .int .i64 0, .int .i64 0, .int .i64 0, .int .i64 0, .int .i64 0, .int .i64 0, .string ⟨#[]⟩, .slice none 0 0, .slice none 0 0], .bool false]) (by simp [results, Try.results74, x4, go_sem]) rfl (rsPost_none HN.out rfl (set12_below B4 (Nat.le_refl _) _ _ _ _ _ _ _ _ _ _ _ _))
        | true =>
          obtain ⟨b1', b2', b3', b4', _, _⟩ := size_facts hZ
          obtain ⟨Wn, rfl⟩ := Int.eq_ofNat_of_zero_le (show 0 ≤ a0 by omega)
          obtain ⟨Hn, rfl⟩ := Int.eq_ofNat_of_zero_le (show 0 ≤ a1 by omega)
          have hW1 : 2 ≤ Wn := by omega
          have hW2 : Wn ≤ 24 := by omega
          have hH1 : 2 ≤ Hn := by omega
          have hH2 : Hn ≤ 10 := by omega
          clear b1' b2' b3' b4'
          rw [show ((Wn : Nat) : Int).toNat = Wn from rfl, show ((Hn : Nat) : Int).toNat = Hn from rfl] at HRD
          have HSZ := Lib.hid hZ
          by_cases hRH : R = Hn
          case neg =>
            have HN : Hid (q = none) := by show _ = _; rw [HRD.out, if_neg (fun h => hRH (by rw [← HRL.out]; exact h.2.1))]
            have j1 : ((R : Int) + 3 != 3 + (Hn : Int)) = true := by simp; omega
            have j2 : ¬ ((R : Int) + 3 = 3 + (Hn : Int)) := by omega
            clear hZ hRH
            go_enter Try.func74, Try.ntmps74
            go_wp2_with fail
            refine HR.out.mono ?_
            rintro e w1 ⟨p1, n1, c1, rfl, hx, hb1⟩
            obtain ⟨hn1, hm1⟩ := hx _ rfl
            obtain rfl : n1 = R + 3 := by have := HRL.out; simp at hn1; omega
            obtain ⟨b1, o1, rfl, hc⟩ := hm1.at.get (by simp [strs])
            have d0 : w1.cell? ⟨b1, o1, none⟩ = some (.string s0) := hc 0 (by simp [strs])
            have d1 : w1.cell? ⟨b1, o1 + 1, none⟩ = some (.string s1) := hc 1 (by simp [strs])
            have d2 : w1.cell? ⟨b1, o1 + 2, none⟩ = some (.string s2) := hc 2 (by simp [strs])
            have hbl : b1 < w1.heap.size := World.block_lt_of_cell? w1 _ d0
            have HROW : Hid (∀ j (hj : j < rows.length), w1.cell? ⟨b1, o1 + 3 + j, none⟩ = some (.string rows[j])) := fun j hj => by have := hc (3 + j) (by simp [strs]; omega); rw [show o1 + (3 + j) = o1 + 3 + j from by omega] at this; rw [this]; simp [strs, Nat.add_comm 3 j]
            have hz1 : w.heap.size + 1 ≤ w1.heap.size := by have := hb1.size; simpa using this
            have B1 : Below w.heap.size w w1 := hb0.trans (hb1.mono (by simp))
            have X1 := Lib.hid (box_below (box_new w (.cells #[.int .i64 0, .int .i64 0, .int .i64 0, .int .i64 0, .int .i64 0, .int .i64 0, .int .i64 0, .int .i64 0, .int .i64 0, .string ⟨#[]⟩, .slice none 0 0, .slice none 0 0] 42)) hb1 (by simp))
            have i0 : ¬ ((R : Int) + 3 < 3) := by omega
            have i11 : (1 : Int) < (R : Int) + 3 := by omega
            clear hx hm1 hn1 hc hb1
            go_wp2_with fail
            refine (l02ReadNumbers_any s0 9 w1 HQ3.out (by omega)).mono ?_
            rintro e w2 ⟨p2, c2, rfl, hm2, hb2⟩
            have hz2 := hb2.size
            have B2 : Below w.heap.size w w2 := B1.trans (hb2.mono (by omega))
            have X2 := Lib.hid (box_below X1.out hb2 (by omega))
            have e1 : w2.cell? ⟨b1, o1 + 1, none⟩ = some (.string s1) := (hb2.cell (p := ⟨b1, o1 + 1, none⟩) hbl).trans d1
            have e2 : w2.cell? ⟨b1, o1 + 2, none⟩ = some (.string s2) := (hb2.cell (p := ⟨b1, o1 + 2, none⟩) hbl).trans d2
            rw [HNS.out] at hm2
            obtain ⟨b2, o2, rfl, hc⟩ := hm2.at.get (by simp [i64s])
            have g0 : w2.cell? ⟨b2, o2, none⟩ = some (.int .i64 (Wn : Int)) := hc 0 (by simp [i64s])
            have g1 : w2.cell? ⟨b2, o2 + 1, none⟩ = some (.int .i64 (Hn : Int)) := hc 1 (by simp [i64s])
            have g2 : w2.cell? ⟨b2, o2 + 2, none⟩ = some (.int .i64 a2) := hc 2 (by simp [i64s])
            have g3 : w2.cell? ⟨b2, o2 + 3, none⟩ = some (.int .i64 a3) := hc 3 (by simp [i64s])
            have g4 : w2.cell? ⟨b2, o2 + 4, none⟩ = some (.int .i64 a4) := hc 4 (by simp [i64s])
            have g5 : w2.cell? ⟨b2, o2 + 5, none⟩ = some (.int .i64 a5) := hc 5 (by simp [i64s])
            have g6 : w2.cell? ⟨b2, o2 + 6, none⟩ = some (.int .i64 a6) := hc 6 (by simp [i64s])
            have g7 : w2.cell? ⟨b2, o2 + 7, none⟩ = some (.int .i64 a7) := hc 7 (by simp [i64s])
            have g8 : w2.cell? ⟨b2, o2 + 8, none⟩ = some (.int .i64 a8) := hc 8 (by simp [i64s])
            have hb2l : b2 < w2.heap.size := World.block_lt_of_cell? w2 _ g0
            clear hc hm2 d0 d1 d2
            go_wp2_with fail
            refine (HH.out w2).mono ?_
            rintro e w3 ⟨aH, nH, cH, rfl, hx3, hb3⟩
            have hz3 := hb3.size
            have B3 : Below w.heap.size w w3 := B2.trans (hb3.mono (by omega))
            have X3 := Lib.hid (box_below X2.out hb3 (by omega))
            obtain ⟨hn3, hm3⟩ := hx3 _ rfl
            have HM3 := Lib.hid hm3
            have HNH := Lib.hid hn3
            have k0 : w3.cell? ⟨b2, o2, none⟩ = some (.int .i64 (Wn : Int)) := (hb3.cell (p := ⟨b2, o2, none⟩) hb2l).trans g0
            have k1 : w3.cell? ⟨b2, o2 + 1, none⟩ = some (.int .i64 (Hn : Int)) := (hb3.cell (p := ⟨b2, o2 + 1, none⟩) hb2l).trans g1
            have k2 : w3.cell? ⟨b2, o2 + 2, none⟩ = some (.int .i64 a2) := (hb3.cell (p := ⟨b2, o2 + 2, none⟩) hb2l).trans g2
            have k3 : w3.cell? ⟨b2, o2 + 3, none⟩ = some (.int .i64 a3) := (hb3.cell (p := ⟨b2, o2 + 3, none⟩) hb2l).trans g3
            have k4 : w3.cell? ⟨b2, o2 + 4, none⟩ = some (.int .i64 a4) := (hb3.cell (p := ⟨b2, o2 + 4, none⟩) hb2l).trans g4
            have k5 : w3.cell? ⟨b2, o2 + 5, none⟩ = some (.int .i64 a5) := (hb3.cell (p := ⟨b2, o2 + 5, none⟩) hb2l).trans g5
            have k6 : w3.cell? ⟨b2, o2 + 6, none⟩ = some (.int .i64 a6) := (hb3.cell (p := ⟨b2, o2 + 6, none⟩) hb2l).trans g6
            have k7 : w3.cell? ⟨b2, o2 + 7, none⟩ = some (.int .i64 a7) := (hb3.cell (p := ⟨b2, o2 + 7, none⟩) hb2l).trans g7
            have k8 : w3.cell? ⟨b2, o2 + 8, none⟩ = some (.int .i64 a8) := (hb3.cell (p := ⟨b2, o2 + 8, none⟩) hb2l).trans g8
            have k9 : w3.cell? ⟨b1, o1 + 1, none⟩ = some (.string s1) := (hb3.cell (p := ⟨b1, o1 + 1, none⟩) (show b1 < w2.heap.size by omega)).trans e1
            have HROW3 : Hid (∀ j (hj : j < rows.length), w3.cell? ⟨b1, o1 + 3 + j, none⟩ = some (.string rows[j])) := fun j hj => (hb3.cell (p := ⟨b1, o1 + 3 + j, none⟩) (show b1 < w2.heap.size by omega)).trans ((hb2.cell (p := ⟨b1, o1 + 3 + j, none⟩) hbl).trans (HROW.out j hj))
            have hb1l : b1 < w3.heap.size := by omega
            have hb2l3 : b2 < w3.heap.size := by omega
            clear hx3 hn3 hm3 hb2 hb3 e1 e2 HROW B1 B2 X1 X2 g0 g1 g2 g3 g4 g5 g6 g7 g8
            have HSZ2 : Hid (∀ W : World, Calls Try.prog 54 #[.int .i64 (Wn : Int), .int .i64 (Hn : Int)] W fun e w' => e = .returned (.bool true) ∧ W = w') := fun W => by have h := l04Size_any (Wn : Int) (Hn : Int) W; rw [HSZ.out] at h; exact h
            go_wp2_with fail
            go_quiet (first | (go_at_call 54; exact quiet_eq (HSZ2.out _)) | fail)
            have hb4w : Below w3.heap.size w3 (w3.drewN nq) := below_drewN nq (Below.refl _ _)
            generalize w3.drewN nq = w4 at *
            have hz4 := hb4w.size
            have B4 : Below w.heap.size w w4 := B3.trans (hb4w.mono (by omega))
            have X4 := Lib.hid (box_below X3.out hb4w (by omega))
            have x4 := box_cells X4.out
            have f4 := box_free X4.out
            go_wp2
            exact bodyPost_ret (v := .tuple #[.agg #[.int .i64 0, .int .i64 0, .int .i64 0, .int .i64 0, .int .i64 0, .int .i64 0, .int .i64 0, .int .i64 0, .int .i64 0, .string ⟨#[]⟩, .slice none 0 0, .slice none 0 0], .bool false]) (by simp [results, Try.results74, x4, go_sem]) rfl (rsPost_none HN.out rfl (set12_below B4 (Nat.le_refl _) _ _ _ _ _ _ _ _ _ _ _ _))
          case pos =>
            subst hRH
            rw [← HQ.out]; exact FULL.out _ _ rfl rfl hZ HRL.out
end Go.Proofs.Ytfabclhcceooaaa
