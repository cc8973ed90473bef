/-
  Contract of l06Read of the reference. Condition: a bound on the length.
-/
import Derived.Test.YtceaanampdcaeaaReadCmd
namespace Go.Proofs.Ytceaanampdcaeaa
open Go.ChangeShapes Go.WideShapes Go.ChangeAt Go.RowKit
set_option linter.unusedVariables false
set_option linter.unusedSimpArgs false

theorem set_cells {b c j : Nat} {W : World} {cs : Array Value} (h : ∀ i, W.cell? ⟨c, i, none⟩ = cs[i]?) (hne : c ≠ b) (v : Value) : ∀ i, (W.setCell ⟨b, j, none⟩ v).cell? ⟨c, i, none⟩ = cs[i]? := fun i =>
  (World.cell?_setCell_other W ⟨b, j, none⟩ ⟨c, i, none⟩ v (fun e => hne (by cases e; rfl))).trans (h i)
theorem set9_cells {b c : Nat} {W : World} {cs : Array Value} (h : ∀ i, W.cell? ⟨c, i, none⟩ = cs[i]?) (hne : c ≠ b) (v0 v1 v2 v3 v4 v5 v6 v7 v8 : Value) :
    ∀ i, (((((((((W.setCell ⟨b, 0, none⟩ v0).setCell ⟨b, 1, none⟩ v1).setCell ⟨b, 2, none⟩ v2).setCell ⟨b, 3, none⟩ v3).setCell ⟨b, 4, none⟩ v4).setCell ⟨b, 5, none⟩ v5).setCell ⟨b, 6, none⟩ v6).setCell ⟨b, 7, none⟩ v7).setCell ⟨b, 8, none⟩ v8).cell? ⟨c, i, none⟩ = cs[i]? :=
  set_cells (set_cells (set_cells (set_cells (set_cells (set_cells (set_cells (set_cells (set_cells h hne v0) hne v1) hne v2) hne v3) hne v4) hne v5) hne v6) hne v7) hne v8

set_option maxHeartbeats 2000000 in
set_option maxRecDepth 100000 in
theorem l06Read_any (s : ByteArray) (w : World) (hs : s.size ≤ 65536) :
    Calls Try.prog 30 #[.string s] w (ReadPost w (rdC s)) := by
  have hb0 : Below w.heap.size w (w.alloc (.cells CmdD.zero.arr 26)) := (Below.refl _ _).alloc (Nat.le_refl _) _
  have HR := Lib.hid (l02Read_any s (w.alloc (.cells CmdD.zero.arr 26)) hs)
  cases hF : fieldsF s with
  | none =>
    have HN := Lib.hid (rdC_none hF)
    rw [hF] at HR
    clear hF
    rw [HN.out]
    go_enter Try.func30, Try.ntmps30
    go_wp2_with fail
    refine HR.out.mono ?_
    rintro e w1 ⟨a1, n1, c1, rfl, _, hb1⟩
    have hz1 : w.heap.size + 1 ≤ w1.heap.size := by have := hb1.size; simpa using this
    have B1 : Below w.heap.size w w1 := hb0.trans (hb1.mono (by simp))
    have X1 := Lib.hid (box_below (box_new w (.cells CmdD.zero.arr 26)) hb1 (by simp))
    have x1 := box_cells X1.out
    have f1 := box_free X1.out
    unfold CmdD.zero CmdD.arr at x1
    go_wp2
    exact bodyPost_ret (v := .tuple #[.agg CmdD.zero.arr, .bool false]) (by simp [results, Try.results30, CmdD.arr, CmdD.zero, x1, go_sem]) rfl (readPost CmdD.zero false rfl rfl some_none (set9 B1 (Nat.le_refl _) _ _ _ _ _ _ _ _ _))
  | some zs =>
    rw [hF] at HR
    by_cases hl : zs.length = 3
    case neg =>
      have HN := Lib.hid (rdC_count hF hl)
      clear hF
      rw [HN.out]
      go_enter Try.func30, Try.ntmps30
      go_wp2_with fail
      refine HR.out.mono ?_
      rintro e w1 ⟨a1, n1, c1, rfl, hx, hb1⟩
      have hn3 : ((n1 : Int) != 3) = true := by have := (hx zs rfl).1; simp; omega
      clear hx hl
      have hz1 : w.heap.size + 1 ≤ w1.heap.size := by have := hb1.size; simpa using this
      have B1 : Below w.heap.size w w1 := hb0.trans (hb1.mono (by simp))
      have X1 := Lib.hid (box_below (box_new w (.cells CmdD.zero.arr 26)) hb1 (by simp))
      have x1 := box_cells X1.out
      have f1 := box_free X1.out
      unfold CmdD.zero CmdD.arr at x1
      go_wp2
      exact bodyPost_ret (v := .tuple #[.agg CmdD.zero.arr, .bool false]) (by simp [results, Try.results30, CmdD.arr, CmdD.zero, x1, go_sem]) rfl (readPost CmdD.zero false rfl rfl some_none (set9 B1 (Nat.le_refl _) _ _ _ _ _ _ _ _ _))
    case pos =>
      obtain ⟨s0, s1, s2, rfl⟩ := three zs hl
      have hsz := fieldsF_small hF
      have z0 : s0.size ≤ 20000 := hsz s0 (by simp)
      have z1 : s1.size ≤ 20000 := hsz s1 (by simp)
      have z2 : s2.size ≤ 20000 := hsz s2 (by simp)
      clear hl hsz
      by_cases hm3 : s0.size % 3 ≠ 0
      case pos =>
        have h21 : s0.size ≠ 21 := by omega
        have HN := Lib.hid (rdC_size hF h21)
        have HM3 := Lib.hid hm3
        clear hm3
        clear hF h21
        rw [HN.out]
        go_enter Try.func30, Try.ntmps30
        go_wp2_with fail
        refine HR.out.mono ?_
        rintro e w1 ⟨a1, n1, c1, rfl, hx, hb1⟩
        obtain ⟨hn1, hm1⟩ := hx _ rfl
        obtain rfl : n1 = 3 := hn1.symm
        obtain ⟨b1, o1, rfl, hc⟩ := hm1.at.get (by simp [strs])
        have d0 : w1.cell? ⟨b1, o1, none⟩ = some (.string s0) := hc 0 (by simp [strs])
        clear hx hm1 hn1 hc
        have hz1 : w.heap.size + 1 ≤ w1.heap.size := by have := hb1.size; simpa using this
        have B1 : Below w.heap.size w w1 := hb0.trans (hb1.mono (by simp))
        have X1 := Lib.hid (box_below (box_new w (.cells CmdD.zero.arr 26)) hb1 (by simp))
        have x1 := box_cells X1.out
        have f1 := box_free X1.out
        unfold CmdD.zero CmdD.arr at x1
        go_wp2_with fail
        refine (l02ReadNumbers_bad s0 w1 HM3.out (by omega)).mono ?_
        rintro e w2 ⟨p2, c2, rfl, hb2⟩
        have hz2 := hb2.size
        have B2 : Below w.heap.size w w2 := B1.trans (hb2.mono (by omega))
        have X2 := Lib.hid (box_below X1.out hb2 (by omega))
        have x2 := box_cells X2.out
        have f2 := box_free X2.out
        unfold CmdD.zero CmdD.arr at x2
        clear x1 f1
        go_wp2
        exact bodyPost_ret (v := .tuple #[.agg CmdD.zero.arr, .bool false]) (by simp [results, Try.results30, CmdD.arr, CmdD.zero, x2, go_sem]) rfl (readPost CmdD.zero false rfl rfl some_none (set9 B2 (Nat.le_refl _) _ _ _ _ _ _ _ _ _))
      case neg =>
      obtain ⟨q, hq⟩ : ∃ q, s0.size = 3 * q := ⟨s0.size / 3, by omega⟩
      clear hm3
      by_cases hq7 : q = 7
      case neg =>
        have h21 : s0.size ≠ 21 := by omega
        have HN := Lib.hid (rdC_size hF h21)
        have HQ := Lib.hid hq
        have hq8 : ((q : Int) != 7) = true := by simp; omega
        have hq20 : q ≤ 20000 := by omega
        clear hq hq7
        clear hF h21
        rw [HN.out]
        go_enter Try.func30, Try.ntmps30
        go_wp2_with fail
        refine HR.out.mono ?_
        rintro e w1 ⟨a1, n1, c1, rfl, hx, hb1⟩
        obtain ⟨hn1, hm1⟩ := hx _ rfl
        obtain rfl : n1 = 3 := hn1.symm
        obtain ⟨b1, o1, rfl, hc⟩ := hm1.at.get (by simp [strs])
        have d0 : w1.cell? ⟨b1, o1, none⟩ = some (.string s0) := hc 0 (by simp [strs])
        clear hx hm1 hn1 hc
        have hz1 : w.heap.size + 1 ≤ w1.heap.size := by have := hb1.size; simpa using this
        have B1 : Below w.heap.size w w1 := hb0.trans (hb1.mono (by simp))
        have X1 := Lib.hid (box_below (box_new w (.cells CmdD.zero.arr 26)) hb1 (by simp))
        have x1 := box_cells X1.out
        have f1 := box_free X1.out
        unfold CmdD.zero CmdD.arr at x1
        go_wp2_with fail
        refine (l02ReadNumbers_any s0 q w1 HQ.out (by omega)).mono ?_
        rintro e w2 ⟨p2, c2, rfl, hm2, hb2⟩
        clear hm2
        have hz2 := hb2.size
        have B2 : Below w.heap.size w w2 := B1.trans (hb2.mono (by omega))
        have X2 := Lib.hid (box_below X1.out hb2 (by omega))
        have x2 := box_cells X2.out
        have f2 := box_free X2.out
        unfold CmdD.zero CmdD.arr at x2
        clear x1 f1
        go_wp2
        exact bodyPost_ret (v := .tuple #[.agg CmdD.zero.arr, .bool false]) (by simp [results, Try.results30, CmdD.arr, CmdD.zero, x2, go_sem]) rfl (readPost CmdD.zero false rfl rfl some_none (set9 B2 (Nat.le_refl _) _ _ _ _ _ _ _ _ _))
      case pos =>
      subst hq7
      have h21 : s0.size = 21 := hq
      obtain ⟨a0, a1, a2, a3, a4, a5, a6, hns⟩ := seven (readL 7 s0.data.toList) (length_readL _ _)
      have hrd := rdC_of hF h21 hns
      have htx := fun hc => cmdText_eq hF h21 hns hc
      have b4 := readL_small 7 s0.data.toList a4 (by rw [hns]; simp)
      obtain ⟨r, hr⟩ : ∃ r, (a6 == 1) = r := ⟨_, rfl⟩
      rw [hr] at hrd htx
      obtain ⟨hb4, hb5⟩ := b4
      have v1 : IntKind.i64.wrap (a4 - 1000) = a4 - 1000 := by rw [IntKind.wrap_i64]; omega
      have H21 := Lib.hid h21
      have HNS := Lib.hid hns
      have HRD := Lib.hid hrd
      have HTX := Lib.hid htx
      obtain ⟨o, ho⟩ : ∃ o, rdC s = o := ⟨_, rfl⟩
      rw [ho] at HRD ⊢
      clear hF hns hrd htx h21 ho
      go_enter Try.func30, Try.ntmps30
      go_wp2_with fail
      refine HR.out.mono ?_
      rintro e w1 ⟨p1, n1, c1, rfl, hx, hb1⟩
      obtain ⟨hn1, hm1⟩ := hx _ rfl
      obtain rfl : n1 = 3 := hn1.symm
      obtain ⟨b1, o1, rfl, hc⟩ := hm1.at.get (by simp [strs])
      have d0 : w1.cell? ⟨b1, o1, none⟩ = some (.string s0) := hc 0 (by simp [strs])
      have d1 : w1.cell? ⟨b1, o1 + 1, none⟩ = some (.string s1) := hc 1 (by simp [strs])
      have d2 : w1.cell? ⟨b1, o1 + 2, none⟩ = some (.string s2) := hc 2 (by simp [strs])
      have hbl : b1 < w1.heap.size := World.block_lt_of_cell? w1 _ d0
      clear hx hm1 hn1 hc
      have hz1 : w.heap.size + 1 ≤ w1.heap.size := by have := hb1.size; simpa using this
      have B1 : Below w.heap.size w w1 := hb0.trans (hb1.mono (by simp))
      have X1 := Lib.hid (box_below (box_new w (.cells CmdD.zero.arr 26)) hb1 (by simp))
      have x1 := box_cells X1.out
      have f1 := box_free X1.out
      unfold CmdD.zero CmdD.arr at x1
      go_wp2_with fail
      refine (l02ReadNumbers_any s0 7 w1 H21.out (by omega)).mono ?_
      rintro e w2 ⟨p2, c2, rfl, hm2, hb2⟩
      rw [HNS.out] at hm2
      obtain ⟨b2, o2, rfl, hc⟩ := hm2.at.get (by simp [i64s])
      have hz2 := hb2.size
      have e1 : w2.cell? ⟨b1, o1 + 1, none⟩ = some (.string s1) := (hb2.cell (p := ⟨b1, o1 + 1, none⟩) hbl).trans d1
      have e2 : w2.cell? ⟨b1, o1 + 2, none⟩ = some (.string s2) := (hb2.cell (p := ⟨b1, o1 + 2, none⟩) hbl).trans d2
      have i0 : w2.cell? ⟨b2, o2, none⟩ = some (.int .i64 a0) := hc 0 (by simp [i64s])
      have i1 : w2.cell? ⟨b2, o2 + 1, none⟩ = some (.int .i64 a1) := hc 1 (by simp [i64s])
      have i2 : w2.cell? ⟨b2, o2 + 2, none⟩ = some (.int .i64 a2) := hc 2 (by simp [i64s])
      have i3 : w2.cell? ⟨b2, o2 + 3, none⟩ = some (.int .i64 a3) := hc 3 (by simp [i64s])
      have i4 : w2.cell? ⟨b2, o2 + 4, none⟩ = some (.int .i64 a4) := hc 4 (by simp [i64s])
      have i5 : w2.cell? ⟨b2, o2 + 5, none⟩ = some (.int .i64 a5) := hc 5 (by simp [i64s])
      have i6 : w2.cell? ⟨b2, o2 + 6, none⟩ = some (.int .i64 a6) := hc 6 (by simp [i64s])
      have B2 : Below w.heap.size w w2 := B1.trans (hb2.mono (by omega))
      have X2 := Lib.hid (box_below X1.out hb2 (by omega))
      clear hc hm2 d0 d1 d2 x1 f1 X1 B1 hb1 hb2
      by_cases h6 : a6 = 0 ∨ a6 = 1
      case neg =>
        have HO : Hid (o = none) := by show _ = _; rw [HRD.out, if_neg (fun h => h6 h.1)]
        have HIR : Hid (inR a6 0 1 = false) := by show _ = _; rw [inR, Bool.and_eq_false_iff, decide_eq_false_iff_not, decide_eq_false_iff_not]; omega
        have x2 := box_cells X2.out
        have f2 := box_free X2.out
        unfold CmdD.zero CmdD.arr at x2
        clear h6 i0 i1 i2 i3 i4 i5 e1 e2 hr
        go_wp2_with fail
        refine (in_val a6 0 1 false _ HIR.out).mono ?_
        rintro e w' ⟨rfl, rfl⟩
        go_wp2
        exact bodyPost_ret (v := .tuple #[.agg CmdD.zero.arr, .bool false]) (by simp [results, Try.results30, CmdD.arr, CmdD.zero, x2, go_sem]) rfl (readPost CmdD.zero false (by rw [HO.out]; rfl) rfl (by rw [HO.out]; exact some_none) (set9 B2 (Nat.le_refl _) _ _ _ _ _ _ _ _ _))
      case pos =>
        have HIR : Hid (inR a6 0 1 = true) := by show _ = _; rw [inR, Bool.and_eq_true, decide_eq_true_eq, decide_eq_true_eq]; omega
        have H6 := Lib.hid h6
        clear h6
        go_wp2_with fail
        refine (in_val a6 0 1 true _ HIR.out).mono ?_
        rintro e w' ⟨rfl, rfl⟩
        go_wp2_with fail
        have ne0 := World.new_ne w2 _ i0
        have ne1 := World.new_ne w2 _ i1
        have ne2 := World.new_ne w2 _ i2
        have ne3 := World.new_ne w2 _ i3
        have ne4 := World.new_ne w2 _ i4
        have ne5 := World.new_ne w2 _ i5
        have ne6 := World.new_ne w2 _ i6
        have ne7 := World.new_ne w2 _ e1
        have ne8 := World.new_ne w2 _ e2
        go_region_held3 (fun w' => w'.cell? ⟨b2, o2, none⟩ = some (.int .i64 a0) ∧ w'.cell? ⟨b2, o2 + 1, none⟩ = some (.int .i64 a1) ∧ w'.cell? ⟨b2, o2 + 2, none⟩ = some (.int .i64 a2) ∧ w'.cell? ⟨b2, o2 + 3, none⟩ = some (.int .i64 a3) ∧ w'.cell? ⟨b2, o2 + 4, none⟩ = some (.int .i64 a4) ∧ w'.cell? ⟨b2, o2 + 5, none⟩ = some (.int .i64 a5) ∧ w'.cell? ⟨b2, o2 + 6, none⟩ = some (.int .i64 a6) ∧ w'.cell? ⟨b1, o1 + 1, none⟩ = some (.string s1) ∧ w'.cell? ⟨b1, o1 + 2, none⟩ = some (.string s2)) (go_keep) (fail)
        have X3 : Hid ((w2.alloc (.cells #[.int .i64 a0, .int .i64 a1, .int .i64 a2, .int .i64 a3, .int .i64 (a4 - 1000), .int .i64 a5, .bool r, .string s1, .string s2] 26)).drew.heap[w.heap.size]? = some (.cells CmdD.zero.arr 26)) := (Below.heap_alloc w2 _ w.heap.size (by have := box_lt X2.out; omega)).trans X2.out
        have Y3 : Hid ((w2.alloc (.cells #[.int .i64 a0, .int .i64 a1, .int .i64 a2, .int .i64 a3, .int .i64 (a4 - 1000), .int .i64 a5, .bool r, .string s1, .string s2] 26)).drew.heap[w2.heap.size]? = some (.cells #[.int .i64 a0, .int .i64 a1, .int .i64 a2, .int .i64 a3, .int .i64 (a4 - 1000), .int .i64 a5, .bool r, .string s1, .string s2] 26)) := box_new w2 _
        have hz3 : (w2.alloc (.cells #[.int .i64 a0, .int .i64 a1, .int .i64 a2, .int .i64 a3, .int .i64 (a4 - 1000), .int .i64 a5, .bool r, .string s1, .string s2] 26)).drew.heap.size = w2.heap.size + 1 := by show (w2.alloc _).heap.size = _; simp
        have B3 : Below w.heap.size w (w2.alloc (.cells #[.int .i64 a0, .int .i64 a1, .int .i64 a2, .int .i64 a3, .int .i64 (a4 - 1000), .int .i64 a5, .bool r, .string s1, .string s2] 26)).drew := (B2.alloc B2.size _).drew
        clear ne0 ne1 ne2 ne3 ne4 ne5 ne6 ne7 ne8 i0 i1 i2 i3 i4 i5 i6 e1 e2 X2 B2
        rename_i hheld
        clear hheld
        generalize (w2.alloc (.cells #[.int .i64 a0, .int .i64 a1, .int .i64 a2, .int .i64 a3, .int .i64 (a4 - 1000), .int .i64 a5, .bool r, .string s1, .string s2] 26)).drew = w3 at *
        have y3 := box_cells Y3.out
        generalize hcbk : w2.heap.size = cb at *
        clear hcbk
        have hne : cb ≠ w.heap.size := by omega
        cases hcb : cmdB a0 a1 a2 a3 (a4 - 1000) a5 r s1 s2
        case false =>
          have HO : Hid (o = none) := by show _ = _; rw [HRD.out, hcb]; simp
          have HCB := Lib.hid hcb
          clear hcb HTX
          go_wp2_with fail
          go_region_held3 (fun w' => ∀ i, w'.cell? ⟨cb, i, none⟩ = (#[.int .i64 a0, .int .i64 a1, .int .i64 a2, .int .i64 a3, .int .i64 (a4 - 1000), .int .i64 a5, .bool r, .string s1, .string s2] : Array Value)[i]?) (first | with_reducible exact set9_cells y4 hne _ _ _ _ _ _ _ _ _ | with_reducible exact y4 | with_reducible exact y3 | exact y3)
            (first
            | (go_at_call 8; refine (specOK_val a0 a1 a2 a3 (a4 - 1000) a5 r s1 s2 false _ (by unfold maxLen; omega) (by unfold maxLen; omega) HCB.out).mono ?_; rintro e w4 ⟨rfl, hb4'⟩; have hz4 := hb4'.size; have B4 : Below w.heap.size w w4 := B3.drew.trans (hb4'.mono (by show _ ≤ w3.heap.size; omega)); have X4 := Lib.hid (box_below (W := w3.drew) X3.out hb4' (by show _ < w3.heap.size; omega)); have x4 := box_cells X4.out; have f4 := box_free X4.out; unfold CmdD.zero CmdD.arr at x4; have y4 := box_cells (box_below (W := w3.drew) Y3.out hb4' (by show _ < w3.heap.size; omega)))
            | fail)
          rename_i hh
          clear hh
          go_wp2
          exact bodyPost_ret (v := .tuple #[.agg (CmdD.mk a0 a1 a2 a3 (a4 - 1000) a5 r s1 s2).arr, .bool false]) (by simp [results, Try.results30, CmdD.arr, x4, go_sem]) rfl (readPost _ false (by rw [HO.out]; rfl) rfl (by rw [HO.out]; exact some_none) (set9 B4 (Nat.le_refl _) _ _ _ _ _ _ _ _ _))
        case true =>
          have HO : Hid (o = some ⟨a0, a1, a2, a3, a4 - 1000, a5, r, s1, s2⟩) := by show _ = _; rw [HRD.out, if_pos ⟨H6.out, hcb⟩]
          have HCB := Lib.hid hcb
          clear hcb HTX
          go_wp2_with fail
          go_region_held3 (fun w' => ∀ i, w'.cell? ⟨cb, i, none⟩ = (#[.int .i64 a0, .int .i64 a1, .int .i64 a2, .int .i64 a3, .int .i64 (a4 - 1000), .int .i64 a5, .bool r, .string s1, .string s2] : Array Value)[i]?) (first | with_reducible exact set9_cells y4 hne _ _ _ _ _ _ _ _ _ | with_reducible exact y4 | with_reducible exact y3 | exact y3)
            (first
            | (go_at_call 8; refine (specOK_val a0 a1 a2 a3 (a4 - 1000) a5 r s1 s2 true _ (by unfold maxLen; omega) (by unfold maxLen; omega) HCB.out).mono ?_; rintro e w4 ⟨rfl, hb4'⟩; have hz4 := hb4'.size; have B4 : Below w.heap.size w w4 := B3.drew.trans (hb4'.mono (by show _ ≤ w3.heap.size; omega)); have X4 := Lib.hid (box_below (W := w3.drew) X3.out hb4' (by show _ < w3.heap.size; omega)); have x4 := box_cells X4.out; have f4 := box_free X4.out; unfold CmdD.zero CmdD.arr at x4; have y4 := box_cells (box_below (W := w3.drew) Y3.out hb4' (by show _ < w3.heap.size; omega)))
            | fail)
          rename_i hh
          clear hh
          go_wp2
          exact bodyPost_ret (v := .tuple #[.agg (CmdD.mk a0 a1 a2 a3 (a4 - 1000) a5 r s1 s2).arr, .bool true]) (by simp [results, Try.results30, CmdD.arr, x4, go_sem]) rfl (readPost _ true (by rw [HO.out]; rfl) rfl (by rw [HO.out]; exact some_same) (set9 B4 (Nat.le_refl _) _ _ _ _ _ _ _ _ _))
end Go.Proofs.Ytceaanampdcaeaa
