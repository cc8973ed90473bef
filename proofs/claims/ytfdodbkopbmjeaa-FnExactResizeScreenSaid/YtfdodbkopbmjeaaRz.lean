/-
  Contract of resized of the given program. Conditions: the screen is valid, the new size is one.
-/
import Derived.Test.YtfdodbkopbmjeaaRzPlain
import Derived.Test.YtfdodbkopbmjeaaRzArm
import Derived.BigRegion
import Derived.Deep.RegionHeld3
import Derived.Deep.DeepCutAuto
namespace Go.Proofs.Ytfdodbkopbmjeaa
open Go.ChangeShapes Go.WideShapes Go.ChangeAt Go.RowKit
set_option linter.unusedVariables false
set_option linter.unusedSimpArgs false
set_option maxRecDepth 100000
attribute [local irreducible] wpList

theorem cloneStrs_any (ao : Option Addr) (n c : Nat) (zs : List ByteArray) (w : World) (ha : At w ao (strs zs)) (hl : zs.length = n) (hn : n ≤ 1048576) :
    Calls Try.prog 39 #[.slice ao n c] w fun e w' => ∃ a' c', e = .returned (.slice a' n c') ∧ Mine w.heap.size w' a' (strs zs) ∧ Below w.heap.size w w' := by
  cases ao with
  | none =>
    have hz : zs = [] := by
      rcases ha with h | ⟨_, _, h, _⟩
      · simpa [strs] using h
      · cases h
    subst hz; subst hl
    refine (Try.slices_Clone_string_nil _ c w).mono ?_
    rintro e w' ⟨rfl, hw⟩
    subst w'
    exact ⟨none, 0, rfl, .inl rfl, Below.refl _ _⟩
  | some a =>
    cases zs with
    | nil =>
      subst hl
      refine (Try.slices_Clone_string_zero a c w).mono ?_
      rintro e w' ⟨v', rfl, hown, _, hb⟩
      obtain ⟨a', c', rfl, hm⟩ := mine_of_owns hown
      exact ⟨a', c', rfl, hm, hb⟩
    | cons z zs =>
      obtain ⟨b, off, e, hc⟩ := ha.get (by simp [strs])
      cases e
      refine (Try.slices_Clone_string b off n c (z :: zs) w (by omega) (by omega) (fun j hj => by
        rw [hc j (by simpa [strs] using hj), strs_get _ _ _ hj]; simp [List.getD, List.getElem?_eq_getElem hj])).mono ?_
      rintro e w' ⟨v', rfl, hown, _, hb⟩
      obtain ⟨a', c', rfl, hm⟩ := mine_of_owns hown
      rw [List.take_of_length_le (by omega)] at hm
      exact ⟨a', c', rfl, hm, hb⟩

set_option maxHeartbeats 8000000 in
theorem resized_nat (Wo Ho : Nat) (x y lk tp bt sx sy : Int) (ti : ByteArray) (aC : Option Addr) (lenC capC : Nat) (cs : List (Int × Int)) (aH : Option Addr) (lenH capH : Nat) (hs : List ByteArray) (Wn Hn : Nat) (w : World) (hc : At w aC (cellsV cs)) (hh : At w aH (strs hs)) (hcc : lenC ≤ capC) (hN : ScrNat Wo Ho lenC lenH x y lk tp bt sx sy ti cs hs) (hS : sizeB (Wn : Int) (Hn : Int) = true) :
    Calls Try.prog 20 #[.agg #[.int .i64 Wo, .int .i64 Ho, .int .i64 x, .int .i64 y, .int .i64 lk, .int .i64 tp, .int .i64 bt, .int .i64 sx, .int .i64 sy, .string ti, .slice aC lenC capC, .slice aH lenH capH], .int .i64 Wn, .int .i64 Hn] w fun e w' => ∃ a' c' b' d', e = .returned (.agg #[.int .i64 (Wn : Int), .int .i64 (Hn : Int), .int .i64 (min x (Wn : Int)), .int .i64 (min y ((Hn : Int) - 1)), .int .i64 lk, .int .i64 0, .int .i64 ((Hn : Int) - 1), .int .i64 (min sx (Wn : Int)), .int .i64 (min sy ((Hn : Int) - 1)), .string ti, .slice a' (Hn * Wn) c', .slice b' lenH d']) ∧ Hn * Wn ≤ c' ∧ Apart a' (cellsV (rzC cs Wo Wn Hn (min Hn Ho) 0)) b' (strs hs) ∧ Mine w.heap.size w' a' (cellsV (rzC cs Wo Wn Hn (min Hn Ho) 0)) ∧ Mine w.heap.size w' b' (strs hs) ∧ Below w.heap.size w w' := by
  obtain ⟨i0, hi, iz0, iz1, iz2⟩ := info_parts Try.info_cell
  obtain ⟨b1, b2, b3, b4, _, _⟩ := size_facts hS
  have HSZ := Lib.hid hS
  obtain ⟨K, hKd⟩ : ∃ K, min Hn Ho = K := ⟨_, rfl⟩
  rw [hKd]
  have hnn : ((Wn : Int)) * (Hn : Int) = ((Hn * Wn : Nat) : Int) := by rw [Int.natCast_mul, Int.mul_comm]
  obtain ⟨n, hn⟩ : ∃ n, Hn * Wn = n := ⟨_, rfl⟩
  rw [hn] at hnn ⊢
  have hn240 : n ≤ 240 := by rw [← hn]; have := Nat.mul_le_mul (show Hn ≤ 10 by omega) (show Wn ≤ 24 by omega); omega
  have hWn : 2 ≤ Wn := by omega
  have hHn : 2 ≤ Hn := by omega
  have hWo := hN.w2
  have hWo2 := hN.w1
  have hHo2 := hN.h1
  have hHo : 2 ≤ Ho := by have := hN.fits.h0; omega
  have HCL : Hid (cs.length = Wo * Ho) := by show _ = _; rw [hN.cl, hN.cn]
  have HCL2 := Lib.hid hN.cl
  have HHL := Lib.hid hN.hl
  have HNN := Lib.hid hnn
  have HN := Lib.hid hn
  have hlh := hN.hn
  have HRF := Lib.hid (fun k (hk : k < Ho) => row_fit hN.cn hk hN.w1 hN.h1)
  clear hS hnn hn hN
  have H0 : Hid (∀ o1 o2, Below w.heap.size w ((w.alloc o1).alloc o2)) := fun o1 o2 => ((Below.refl _ _).alloc (Nat.le_refl _) _).alloc (by simp) _
  have HX : Hid (∀ o1 o2, ((w.alloc o1).alloc o2).heap[w.heap.size]? = some o1 ∧ ((w.alloc o1).alloc o2).heap[w.heap.size + 1]? = some o2) := fun o1 o2 => by
    have e1 : (w.alloc o1).heap.size = w.heap.size + 1 := by simp
    exact ⟨(Below.heap_alloc _ _ _ (by omega)).trans (heap_alloc_new w _), by rw [← e1]; exact heap_alloc_new _ _⟩
  have HC0 := Lib.hid hc
  have HH0 := Lib.hid hh
  clear hc hh
  go_enter Try.func20, Try.ntmps20
  go_wp2_with fail
  refine (newScreen_any (Wn : Int) (Hn : Int) n _ HSZ.out HNN.out).mono ?_
  rintro e w1 ⟨ao, cap, rfl, hcap, hm, hb⟩
  have hz1 : w.heap.size + 2 ≤ w1.heap.size := by have := hb.size; simp at this; omega
  have XS := Lib.hid (box_below (HX.out (.cells #[.int .i64 Wo, .int .i64 Ho, .int .i64 x, .int .i64 y, .int .i64 lk, .int .i64 tp, .int .i64 bt, .int .i64 sx, .int .i64 sy, .string ti, .slice aC lenC capC, .slice aH lenH capH] 29) (.cells #[.int .i64 0, .int .i64 0, .int .i64 0, .int .i64 0, .int .i64 0, .int .i64 0, .int .i64 0, .int .i64 0, .int .i64 0, .string ⟨#[]⟩, .slice none 0 0, .slice none 0 0] 29)).1 hb (by simp; omega))
  have XR := Lib.hid (box_below (HX.out (.cells #[.int .i64 Wo, .int .i64 Ho, .int .i64 x, .int .i64 y, .int .i64 lk, .int .i64 tp, .int .i64 bt, .int .i64 sx, .int .i64 sy, .string ti, .slice aC lenC capC, .slice aH lenH capH] 29) (.cells #[.int .i64 0, .int .i64 0, .int .i64 0, .int .i64 0, .int .i64 0, .int .i64 0, .int .i64 0, .int .i64 0, .int .i64 0, .string ⟨#[]⟩, .slice none 0 0, .slice none 0 0] 29)).2 hb (by simp))
  have B1 : Below w.heap.size w w1 := (H0.out _ _).trans (hb.mono (by simp; omega))
  obtain ⟨g, o0, rfl, hgB, hcg⟩ := hm.get (by intro e; have := congrArg List.length e; rw [length_cellsV, List.length_replicate] at this; have h3 : 2 * n = 0 := this; have := HN.out; have : 1 ≤ Hn * Wn := Nat.mul_pos (by omega) (by omega); omega)
  have hgB2 : w.heap.size + 2 ≤ g := by simp at hgB; omega
  have hgw : g < w1.heap.size := World.block_lt_of_cell? w1 _ (hcg 0 (by rw [length_cellsV, List.length_replicate]; have := HN.out; have : 1 ≤ Hn * Wn := Nat.mul_pos (by omega) (by omega); omega)).1
  have HM1 : Hid (Mine (w.heap.size + 2) w1 (some ⟨g, o0, none⟩) (cellsV (List.replicate n bl))) := .inr ⟨g, o0, rfl, hgB2, hcg⟩
  clear hm hgB hcg hb
  have xs := cells_alloc (box_cells XS.out) (by omega) (.cells #[.int .i64 (Wn : Int), .int .i64 (Hn : Int), .int .i64 0, .int .i64 0, .int .i64 0, .int .i64 0, .int .i64 ((Hn : Int) - 1), .int .i64 0, .int .i64 0, .string ⟨#[]⟩, .slice (some ⟨g, o0, none⟩) n cap, .slice none 0 0] 29)
  have HMA := Lib.hid (HM1.out.below ((Below.refl w1.heap.size w1).alloc (Nat.le_refl _) (.cells #[.int .i64 (Wn : Int), .int .i64 (Hn : Int), .int .i64 0, .int .i64 0, .int .i64 0, .int .i64 0, .int .i64 ((Hn : Int) - 1), .int .i64 0, .int .i64 0, .string ⟨#[]⟩, .slice (some ⟨g, o0, none⟩) n cap, .slice none 0 0] 29)) (Nat.le_refl _))
  have XSA := Lib.hid ((Below.heap_alloc w1 (.cells #[.int .i64 (Wn : Int), .int .i64 (Hn : Int), .int .i64 0, .int .i64 0, .int .i64 0, .int .i64 0, .int .i64 ((Hn : Int) - 1), .int .i64 0, .int .i64 0, .string ⟨#[]⟩, .slice (some ⟨g, o0, none⟩) n cap, .slice none 0 0] 29) w.heap.size (by omega)).trans XS.out)
  have XRA := Lib.hid ((Below.heap_alloc w1 (.cells #[.int .i64 (Wn : Int), .int .i64 (Hn : Int), .int .i64 0, .int .i64 0, .int .i64 0, .int .i64 0, .int .i64 ((Hn : Int) - 1), .int .i64 0, .int .i64 0, .string ⟨#[]⟩, .slice (some ⟨g, o0, none⟩) n cap, .slice none 0 0] 29) (w.heap.size + 1) (by omega)).trans XR.out)
  have XOA := Lib.hid (box_new w1 (.cells #[.int .i64 (Wn : Int), .int .i64 (Hn : Int), .int .i64 0, .int .i64 0, .int .i64 0, .int .i64 0, .int .i64 ((Hn : Int) - 1), .int .i64 0, .int .i64 0, .string ⟨#[]⟩, .slice (some ⟨g, o0, none⟩) n cap, .slice none 0 0] 29))
  have BA := B1.alloc B1.size (.cells #[.int .i64 (Wn : Int), .int .i64 (Hn : Int), .int .i64 0, .int .i64 0, .int .i64 0, .int .i64 0, .int .i64 ((Hn : Int) - 1), .int .i64 0, .int .i64 0, .string ⟨#[]⟩, .slice (some ⟨g, o0, none⟩) n cap, .slice none 0 0] 29)
  have hK : min (Hn : Int) (Ho : Int) = (K : Int) := by omega
  have hK1 : K ≤ Hn := by omega
  have hK2 : K ≤ Ho := by omega
  clear HM1 XS XR B1 hKd
  go_wp2_with fail
  clear xs
  generalize hW : w1.alloc (.cells #[.int .i64 (Wn : Int), .int .i64 (Hn : Int), .int .i64 0, .int .i64 0, .int .i64 0, .int .i64 0, .int .i64 ((Hn : Int) - 1), .int .i64 0, .int .i64 0, .string ⟨#[]⟩, .slice (some ⟨g, o0, none⟩) n cap, .slice none 0 0] 29) = W at *
  have hzW : w1.heap.size + 1 ≤ W.heap.size := by rw [← hW]; simp
  clear hW
  generalize w1.heap.size = ob at *
  go_loopw [16] (fun i wr => ∃ k : Nat, k ≤ K ∧ i = .int .i64 k ∧ Mine (w.heap.size + 2) wr (some ⟨g, o0, none⟩) (cellsV (rzC cs Wo Wn Hn k 0)) ∧ wr.heap[w.heap.size]? = some (.cells #[.int .i64 Wo, .int .i64 Ho, .int .i64 x, .int .i64 y, .int .i64 lk, .int .i64 tp, .int .i64 bt, .int .i64 sx, .int .i64 sy, .string ti, .slice aC lenC capC, .slice aH lenH capH] 29) ∧ wr.heap[w.heap.size + 1]? = some (.cells #[.int .i64 0, .int .i64 0, .int .i64 0, .int .i64 0, .int .i64 0, .int .i64 0, .int .i64 0, .int .i64 0, .int .i64 0, .string ⟨#[]⟩, .slice none 0 0, .slice none 0 0] 29) ∧ wr.heap[ob]? = some (.cells #[.int .i64 (Wn : Int), .int .i64 (Hn : Int), .int .i64 0, .int .i64 0, .int .i64 0, .int .i64 0, .int .i64 ((Hn : Int) - 1), .int .i64 0, .int .i64 0, .string ⟨#[]⟩, .slice (some ⟨g, o0, none⟩) n cap, .slice none 0 0] 29) ∧ Below w.heap.size w wr ∧ W.heap.size ≤ wr.heap.size) (fun i _ => K - (intOf i).toNat)
  case atStart => exact ⟨0, Nat.zero_le _, rfl, by rw [rz_blank, HN.out]; exact HMA.out, XSA.out, XRA.out, XOA.out, BA, Nat.le_refl _⟩
  case round =>
    obtain ⟨k, hk, rfl, hm, gs, gr, go', hB, hzr⟩ := hrel
    clear HMA XSA XRA XOA BA
    by_cases hkt : k < K
    · have hkn : k < Hn := by omega
      have hko : k < Ho := by omega
      obtain ⟨hf1, hf2⟩ := HRF.out k hko
      obtain ⟨q, hq⟩ : ∃ p, k * Wo = p := ⟨_, rfl⟩
      obtain ⟨q2, hq2⟩ : ∃ p, (k + 1) * Wo = p := ⟨_, rfl⟩
      obtain ⟨p, hp⟩ : ∃ p, k * Wn = p := ⟨_, rfl⟩
      obtain ⟨p2, hp2⟩ : ∃ p, (k + 1) * Wn = p := ⟨_, rfl⟩
      have hqq : q2 = q + Wo := by rw [← hq, ← hq2, Nat.succ_mul]
      have hpp : p2 = p + Wn := by rw [← hp, ← hp2, Nat.succ_mul]
      have hpn : p2 ≤ n := by rw [← hp2, ← HN.out]; exact Nat.mul_le_mul_right _ (by omega)
      rw [hq] at hf1
      have m1 : (k : Int) * (Wo : Int) = (q : Int) := by rw [← hq]; simp
      have m2 : ((k : Int) + 1) * (Wo : Int) = (q2 : Int) := by rw [← hq2]; simp
      have m3 : (k : Int) * (Wn : Int) = (p : Int) := by rw [← hp]; simp
      have m4 : ((k : Int) + 1) * (Wn : Int) = (p2 : Int) := by rw [← hp2]; simp
      obtain ⟨bS, oS, rfl, _⟩ := HC0.out.get (by intro e; have := congrArg List.length e; rw [length_cellsV, HCL2.out] at this; simp at this; omega)
      have hlr := length_rowC HCL.out hko
      obtain ⟨m, hmm⟩ : ∃ m, Nat.min Wo Wn = m := ⟨_, rfl⟩
      have hmm' : min Wn Wo = m := by rw [← hmm]; exact Nat.min_comm _ _
      have hm1 : m ≤ Wo := by rw [← hmm]; exact Nat.min_le_left _ _
      have hm2 : m ≤ Wn := by rw [← hmm]; exact Nat.min_le_right _ _
      have hlm : (cellsV ((rowC cs Wo k).take m)).length = m * 2 := by rw [length_cellsV, List.length_take, hlr]; omega
      have hmd : Mine (w.heap.size + 2) wr.drew (some ⟨g, o0, none⟩) (cellsV (rzC cs Wo Wn Hn k 0)) := hm
      have hcf := mine_cells hmd
      have hlz : (cellsV (rzC cs Wo Wn Hn k 0)).length = 2 * n := by rw [length_cellsV, length_rzC HCL.out hko hkn (by omega), HN.out]
      have hsrc := at_src (w := wr.drew) (HC0.out.below hB.drew (Nat.le_refl _)) (q * 2) (m * 2)
      rw [cellsV_drop, cellsV_take, ← hq, show (cs.drop (k * Wo)).take m = (rowC cs Wo k).take m from by rw [rowC, List.take_take, Nat.min_eq_left hm1], hq] at hsrc
      have hm4 := mine_setCells (B := w.heap.size + 2) (off := o0) hgB2 hcf (p * 2) (cellsV ((rowC cs Wo k).take m)) (by rw [hlz, hlm]; omega)
      have e : (cellsV (rzC cs Wo Wn Hn k 0)).take (p * 2) ++ (cellsV ((rowC cs Wo k).take m) ++ (cellsV (rzC cs Wo Wn Hn k 0)).drop (p * 2 + (cellsV ((rowC cs Wo k).take m)).length)) = cellsV (rzC cs Wo Wn Hn (k + 1) 0) := by
        rw [hlm, ← Nat.add_mul, cellsV_take, cellsV_drop, ← cellsV_append, ← cellsV_append, ← rz_copy HCL.out hko hkn, hp, hmm']
      rw [e] at hm4
      have hb4 := below_setCells (B := w.heap.size) (b := g) (by omega) (cellsV ((rowC cs Wo k).take m)) (o0 + p * 2) wr.drew hB.drew
      have hg4 := grownBy_setCells (b := g) (cellsV ((rowC cs Wo k).take m)) (o0 + p * 2) wr.drew
      have hs4 := size_setCells (b := g) (cellsV ((rowC cs Wo k).take m)) (o0 + p * 2) wr.drew
      have hrun := run_copy_cellsZ (P := Try.prog) wr.drew 27 27 3 49 2 g (o0 + p * 2) Wn (cap - p) ⟨bS, oS + q * 2, none⟩ Wo (capC - q) (cellsV ((rowC cs Wo k).take m)) Try.underlying27 (by rw [hi]; exact congrArg some iz1) (by rw [hmm]; exact hlm) hsrc
        (fun j hj => by
          rw [hlm] at hj
          rw [show o0 + p * 2 + j = o0 + (p * 2 + j) from by omega, (hcf (p * 2 + j) (by rw [hlz]; omega)).1]; rfl)
        (fun j hj => by
          rw [hlm] at hj
          rw [show o0 + p * 2 + j = o0 + (p * 2 + j) from by omega]
          exact (hcf (p * 2 + j) (by rw [hlz]; omega)).2) (cellsV_one _)
      rw [hmm] at hrun
      generalize wr.drew.setCells g (o0 + p * 2) (cellsV ((rowC cs Wo k).take m)) = w4 at *
      have Gs : Hid (w4.heap[w.heap.size]? = some (.cells #[.int .i64 Wo, .int .i64 Ho, .int .i64 x, .int .i64 y, .int .i64 lk, .int .i64 tp, .int .i64 bt, .int .i64 sx, .int .i64 sy, .string ti, .slice (some ⟨bS, oS, none⟩) lenC capC, .slice aH lenH capH] 29)) := (hg4.block _ (by show _ < wr.heap.size; omega) (by simp; omega)).trans gs
      have Gr : Hid (w4.heap[w.heap.size + 1]? = some (.cells #[.int .i64 0, .int .i64 0, .int .i64 0, .int .i64 0, .int .i64 0, .int .i64 0, .int .i64 0, .int .i64 0, .int .i64 0, .string ⟨#[]⟩, .slice none 0 0, .slice none 0 0] 29)) := (hg4.block _ (by show _ < wr.heap.size; omega) (by simp; omega)).trans gr
      have Go : Hid (w4.heap[ob]? = some (.cells #[.int .i64 (Wn : Int), .int .i64 (Hn : Int), .int .i64 0, .int .i64 0, .int .i64 0, .int .i64 0, .int .i64 ((Hn : Int) - 1), .int .i64 0, .int .i64 0, .string ⟨#[]⟩, .slice (some ⟨g, o0, none⟩) n cap, .slice none 0 0] 29)) := (hg4.block _ (by show _ < wr.heap.size; omega) (by simp; omega)).trans go'
      have HM4 := Lib.hid hm4
      have hs4' : W.heap.size ≤ w4.heap.size := by rw [hs4]; exact hzr
      have xsd : ∀ i, wr.drew.cell? ⟨w.heap.size, i, none⟩ = _ := box_cells gs
      have xod : ∀ i, wr.drew.cell? ⟨ob, i, none⟩ = _ := box_cells go'
      have n1 : ¬ cap = p := by omega
      have n2 : ¬ capC = q := by omega
      have i1 : (0 : Int) ≤ (p : Int) := by omega
      have i2 : (p : Int) ≤ (p2 : Int) := by omega
      have i3 : (p2 : Int) ≤ (cap : Int) := by omega
      have i4 : p2 - p = Wn := by omega
      have j1 : (0 : Int) ≤ (q : Int) := by omega
      have j2 : (q : Int) ≤ (q2 : Int) := by omega
      have j3 : (q2 : Int) ≤ (capC : Int) := by omega
      have j4 : q2 - q = Wo := by omega
      have i5 : (k : Int) < (K : Int) := by omega
      have u1 : p2 ≤ 240 := by omega
      have u2 : q2 ≤ 240 := by omega
      clear gs gr go' hm hmd hcf hsrc hm4 e hlz hlm hlr hg4 hs4 hB HC0 HRF hmm hmm' hp hp2 hq hq2 hpp hqq
      go_wp2_with fail
      go_region
      go_wp2
      go_roundw
      case rel => exact ⟨k + 1, by omega, by go_num, HM4.out, Gs.out, Gr.out, Go.out, hb4, hs4'⟩
      case measure => simp [intOf]; omega
    · have hkK : k = K := by omega
      subst hkK
      have i5 : (k : Int) ≤ (k : Int) := Int.le_refl _
      have hne : w.heap.size ≠ ob := by omega
      have hne2 : ¬ ob = w.heap.size := by omega
      have hgo : g ≠ ob := by omega
      have v1 : IntKind.i64.wrap ((Hn : Int) - 1) = (Hn : Int) - 1 := by rw [IntKind.wrap_i64]; omega
      have P0 := go'
      have Q0 := gs
      have T0 := gr
      have HB0 := Lib.hid hB
      have HM0 := Lib.hid hm
      clear gs gr go' hm hB HC0 HRF
      obtain ⟨V1, e1⟩ : ∃ W, wr.setCell ⟨ob, 2, none⟩ (.int .i64 (min x (Wn : Int))) = W := ⟨_, rfl⟩
      have P1 : V1.heap[ob]? = some (.cells #[.int .i64 (Wn : Int), .int .i64 (Hn : Int), .int .i64 (min x (Wn : Int)), .int .i64 0, .int .i64 0, .int .i64 0, .int .i64 ((Hn : Int) - 1), .int .i64 0, .int .i64 0, .string ⟨#[]⟩, .slice (some ⟨g, o0, none⟩) n cap, .slice none 0 0] 29) := by rw [← e1, heap_setCell_same wr ob 2 _ _ _ P0]; simp
      have Q1 : V1.heap[w.heap.size]? = some (.cells #[.int .i64 Wo, .int .i64 Ho, .int .i64 x, .int .i64 y, .int .i64 lk, .int .i64 tp, .int .i64 bt, .int .i64 sx, .int .i64 sy, .string ti, .slice aC lenC capC, .slice aH lenH capH] 29) := by rw [← e1]; exact (Below.heap_setCell _ _ _ _ hne).trans Q0
      have T1 : V1.heap[w.heap.size + 1]? = some (.cells #[.int .i64 0, .int .i64 0, .int .i64 0, .int .i64 0, .int .i64 0, .int .i64 0, .int .i64 0, .int .i64 0, .int .i64 0, .string ⟨#[]⟩, .slice none 0 0, .slice none 0 0] 29) := by rw [← e1]; exact (Below.heap_setCell _ _ _ _ (show w.heap.size + 1 ≠ ob by omega)).trans T0
      have HB1 : Hid (Below w.heap.size w V1) := by show Below _ _ _; rw [← e1]; exact HB0.out.setCell (p := ⟨ob, 2, none⟩) (show w.heap.size ≤ ob by omega) _
      have HM1 : Hid (Mine (w.heap.size + 2) V1 (some ⟨g, o0, none⟩) (cellsV (rzC cs Wo Wn Hn k 0))) := by show Mine _ _ _ _; rw [← e1]; exact mine_set_ne HM0.out hgo _ _
      have z1 : W.heap.size ≤ V1.heap.size := by rw [← e1]; simpa [World.setCell] using hzr
      obtain ⟨V2, e2⟩ : ∃ W, V1.setCell ⟨ob, 7, none⟩ (.int .i64 (min sx (Wn : Int))) = W := ⟨_, rfl⟩
      have P2 : V2.heap[ob]? = some (.cells #[.int .i64 (Wn : Int), .int .i64 (Hn : Int), .int .i64 (min x (Wn : Int)), .int .i64 0, .int .i64 0, .int .i64 0, .int .i64 ((Hn : Int) - 1), .int .i64 (min sx (Wn : Int)), .int .i64 0, .string ⟨#[]⟩, .slice (some ⟨g, o0, none⟩) n cap, .slice none 0 0] 29) := by rw [← e2, heap_setCell_same V1 ob 7 _ _ _ P1]; simp
      have Q2 : V2.heap[w.heap.size]? = some (.cells #[.int .i64 Wo, .int .i64 Ho, .int .i64 x, .int .i64 y, .int .i64 lk, .int .i64 tp, .int .i64 bt, .int .i64 sx, .int .i64 sy, .string ti, .slice aC lenC capC, .slice aH lenH capH] 29) := by rw [← e2]; exact (Below.heap_setCell _ _ _ _ hne).trans Q1
      have T2 : V2.heap[w.heap.size + 1]? = some (.cells #[.int .i64 0, .int .i64 0, .int .i64 0, .int .i64 0, .int .i64 0, .int .i64 0, .int .i64 0, .int .i64 0, .int .i64 0, .string ⟨#[]⟩, .slice none 0 0, .slice none 0 0] 29) := by rw [← e2]; exact (Below.heap_setCell _ _ _ _ (show w.heap.size + 1 ≠ ob by omega)).trans T1
      have HB2 : Hid (Below w.heap.size w V2) := by show Below _ _ _; rw [← e2]; exact HB1.out.setCell (p := ⟨ob, 7, none⟩) (show w.heap.size ≤ ob by omega) _
      have HM2 : Hid (Mine (w.heap.size + 2) V2 (some ⟨g, o0, none⟩) (cellsV (rzC cs Wo Wn Hn k 0))) := by show Mine _ _ _ _; rw [← e2]; exact mine_set_ne HM1.out hgo _ _
      have z2 : W.heap.size ≤ V2.heap.size := by rw [← e2]; simpa [World.setCell] using z1
      obtain ⟨V3, e3⟩ : ∃ W, V2.setCell ⟨ob, 3, none⟩ (.int .i64 (min y ((Hn : Int) - 1))) = W := ⟨_, rfl⟩
      have P3 : V3.heap[ob]? = some (.cells #[.int .i64 (Wn : Int), .int .i64 (Hn : Int), .int .i64 (min x (Wn : Int)), .int .i64 (min y ((Hn : Int) - 1)), .int .i64 0, .int .i64 0, .int .i64 ((Hn : Int) - 1), .int .i64 (min sx (Wn : Int)), .int .i64 0, .string ⟨#[]⟩, .slice (some ⟨g, o0, none⟩) n cap, .slice none 0 0] 29) := by rw [← e3, heap_setCell_same V2 ob 3 _ _ _ P2]; simp
      have Q3 : V3.heap[w.heap.size]? = some (.cells #[.int .i64 Wo, .int .i64 Ho, .int .i64 x, .int .i64 y, .int .i64 lk, .int .i64 tp, .int .i64 bt, .int .i64 sx, .int .i64 sy, .string ti, .slice aC lenC capC, .slice aH lenH capH] 29) := by rw [← e3]; exact (Below.heap_setCell _ _ _ _ hne).trans Q2
      have T3 : V3.heap[w.heap.size + 1]? = some (.cells #[.int .i64 0, .int .i64 0, .int .i64 0, .int .i64 0, .int .i64 0, .int .i64 0, .int .i64 0, .int .i64 0, .int .i64 0, .string ⟨#[]⟩, .slice none 0 0, .slice none 0 0] 29) := by rw [← e3]; exact (Below.heap_setCell _ _ _ _ (show w.heap.size + 1 ≠ ob by omega)).trans T2
      have HB3 : Hid (Below w.heap.size w V3) := by show Below _ _ _; rw [← e3]; exact HB2.out.setCell (p := ⟨ob, 3, none⟩) (show w.heap.size ≤ ob by omega) _
      have HM3 : Hid (Mine (w.heap.size + 2) V3 (some ⟨g, o0, none⟩) (cellsV (rzC cs Wo Wn Hn k 0))) := by show Mine _ _ _ _; rw [← e3]; exact mine_set_ne HM2.out hgo _ _
      have z3 : W.heap.size ≤ V3.heap.size := by rw [← e3]; simpa [World.setCell] using z2
      obtain ⟨V4, e4⟩ : ∃ W, V3.setCell ⟨ob, 8, none⟩ (.int .i64 (min sy ((Hn : Int) - 1))) = W := ⟨_, rfl⟩
      have P4 : V4.heap[ob]? = some (.cells #[.int .i64 (Wn : Int), .int .i64 (Hn : Int), .int .i64 (min x (Wn : Int)), .int .i64 (min y ((Hn : Int) - 1)), .int .i64 0, .int .i64 0, .int .i64 ((Hn : Int) - 1), .int .i64 (min sx (Wn : Int)), .int .i64 (min sy ((Hn : Int) - 1)), .string ⟨#[]⟩, .slice (some ⟨g, o0, none⟩) n cap, .slice none 0 0] 29) := by rw [← e4, heap_setCell_same V3 ob 8 _ _ _ P3]; simp
      have Q4 : V4.heap[w.heap.size]? = some (.cells #[.int .i64 Wo, .int .i64 Ho, .int .i64 x, .int .i64 y, .int .i64 lk, .int .i64 tp, .int .i64 bt, .int .i64 sx, .int .i64 sy, .string ti, .slice aC lenC capC, .slice aH lenH capH] 29) := by rw [← e4]; exact (Below.heap_setCell _ _ _ _ hne).trans Q3
      have T4 : V4.heap[w.heap.size + 1]? = some (.cells #[.int .i64 0, .int .i64 0, .int .i64 0, .int .i64 0, .int .i64 0, .int .i64 0, .int .i64 0, .int .i64 0, .int .i64 0, .string ⟨#[]⟩, .slice none 0 0, .slice none 0 0] 29) := by rw [← e4]; exact (Below.heap_setCell _ _ _ _ (show w.heap.size + 1 ≠ ob by omega)).trans T3
      have HB4 : Hid (Below w.heap.size w V4) := by show Below _ _ _; rw [← e4]; exact HB3.out.setCell (p := ⟨ob, 8, none⟩) (show w.heap.size ≤ ob by omega) _
      have HM4 : Hid (Mine (w.heap.size + 2) V4 (some ⟨g, o0, none⟩) (cellsV (rzC cs Wo Wn Hn k 0))) := by show Mine _ _ _ _; rw [← e4]; exact mine_set_ne HM3.out hgo _ _
      have z4 : W.heap.size ≤ V4.heap.size := by rw [← e4]; simpa [World.setCell] using z3
      have y0 : ∀ i, wr.drew.cell? ⟨ob, i, none⟩ = _ := box_cells P0
      have s0 : ∀ i, wr.drew.cell? ⟨w.heap.size, i, none⟩ = _ := box_cells Q0
      have f0 : ∀ i, wr.drew.frozen? ⟨ob, i, none⟩ = false := box_free P0
      have y1 : ∀ i, V1.drew.cell? ⟨ob, i, none⟩ = _ := box_cells P1
      have s1 : ∀ i, V1.drew.cell? ⟨w.heap.size, i, none⟩ = _ := box_cells Q1
      have f1 : ∀ i, V1.drew.frozen? ⟨ob, i, none⟩ = false := box_free P1
      have y2 : ∀ i, V2.drew.cell? ⟨ob, i, none⟩ = _ := box_cells P2
      have s2 : ∀ i, V2.drew.cell? ⟨w.heap.size, i, none⟩ = _ := box_cells Q2
      have f2 : ∀ i, V2.drew.frozen? ⟨ob, i, none⟩ = false := box_free P2
      have y3 : ∀ i, V3.drew.cell? ⟨ob, i, none⟩ = _ := box_cells P3
      have s3 : ∀ i, V3.drew.cell? ⟨w.heap.size, i, none⟩ = _ := box_cells Q3
      have f3 : ∀ i, V3.drew.frozen? ⟨ob, i, none⟩ = false := box_free P3
      have y4 : ∀ i, V4.drew.cell? ⟨ob, i, none⟩ = _ := box_cells P4
      have s4 : ∀ i, V4.drew.cell? ⟨w.heap.size, i, none⟩ = _ := box_cells Q4
      have f4 : ∀ i, V4.drew.frozen? ⟨ob, i, none⟩ = false := box_free P4
      have HP4 := Lib.hid P4
      have HQ4 := Lib.hid Q4
      have HT4 := Lib.hid T4
      clear P0 P1 P2 P3 P4 Q0 Q1 Q2 Q3 Q4 T0 T1 T2 T3 T4 HB0 HB1 HB2 HB3 HM0 HM1 HM2 HM3 z1 z2 z3 hzr
      go_upto_region 7 with fail
      go_cut [] from 9 to 75 (fun wx => wx = V4.drew)
      case first =>
        go_region
        go_wp2_with fail
        go_meet
        rfl
      case rest =>
        obtain rfl := hcut
        clear e1 e2 e3 e4 y0 y1 y2 y3 y4 s0 s1 s2 s3 s4 f0 f1 f2 f3 f4
        have P5 : V4.drew.heap[ob]? = some (.cells #[.int .i64 (Wn : Int), .int .i64 (Hn : Int), .int .i64 (min x (Wn : Int)), .int .i64 (min y ((Hn : Int) - 1)), .int .i64 0, .int .i64 0, .int .i64 ((Hn : Int) - 1), .int .i64 (min sx (Wn : Int)), .int .i64 (min sy ((Hn : Int) - 1)), .string ⟨#[]⟩, .slice (some ⟨g, o0, none⟩) n cap, .slice none 0 0] 29) := HP4.out
        have Q5 : V4.drew.heap[w.heap.size]? = some (.cells #[.int .i64 Wo, .int .i64 Ho, .int .i64 x, .int .i64 y, .int .i64 lk, .int .i64 tp, .int .i64 bt, .int .i64 sx, .int .i64 sy, .string ti, .slice aC lenC capC, .slice aH lenH capH] 29) := HQ4.out
        have T5 : V4.drew.heap[w.heap.size + 1]? = some (.cells #[.int .i64 0, .int .i64 0, .int .i64 0, .int .i64 0, .int .i64 0, .int .i64 0, .int .i64 0, .int .i64 0, .int .i64 0, .string ⟨#[]⟩, .slice none 0 0, .slice none 0 0] 29) := HT4.out
        have HB5 : Hid (Below w.heap.size w V4.drew) := HB4.out.drew
        have HM5 : Hid (Mine (w.heap.size + 2) V4.drew (some ⟨g, o0, none⟩) (cellsV (rzC cs Wo Wn Hn k 0))) := HM4.out
        have z5 : W.heap.size ≤ V4.drew.heap.size := z4
        clear HP4 HQ4 HT4 HB4 HM4 z4
        generalize V4.drew = V at *
        have sV : ∀ i, V.drew.cell? ⟨w.heap.size, i, none⟩ = (#[.int .i64 Wo, .int .i64 Ho, .int .i64 x, .int .i64 y, .int .i64 lk, .int .i64 tp, .int .i64 bt, .int .i64 sx, .int .i64 sy, .string ti, .slice aC lenC capC, .slice aH lenH capH] : Array Value)[i]? := box_cells Q5
        have hob : ob < V.heap.size := by omega
        have hgV : g < V.heap.size := by omega
        have HARM := Lib.hid (rz_arm (hs := hs) (w := w) P5 Q5 T5 HB5 HM5 hne hgo (by omega) hob hgV)
        clear P5 Q5 T5 HM5 z5
        go_upto_region 8 with fail
        go_cut [] from 9 to 75 (fun wx => ∃ aN cN, (∀ i, wx.cell? ⟨ob, i, none⟩ = (#[.int .i64 (Wn : Int), .int .i64 (Hn : Int), .int .i64 (min x (Wn : Int)), .int .i64 (min y ((Hn : Int) - 1)), .int .i64 lk, .int .i64 0, .int .i64 ((Hn : Int) - 1), .int .i64 (min sx (Wn : Int)), .int .i64 (min sy ((Hn : Int) - 1)), .string ti, .slice (some ⟨g, o0, none⟩) n cap, .slice aN lenH cN] : Array Value)[i]?) ∧ (∀ i, wx.cell? ⟨w.heap.size + 1, i, none⟩ = (#[.int .i64 0, .int .i64 0, .int .i64 0, .int .i64 0, .int .i64 0, .int .i64 0, .int .i64 0, .int .i64 0, .int .i64 0, .string ⟨#[]⟩, .slice none 0 0, .slice none 0 0] : Array Value)[i]?) ∧ (∀ i, wx.frozen? ⟨w.heap.size + 1, i, none⟩ = false) ∧ Hid (Below w.heap.size w wx) ∧ Hid (Mine (w.heap.size + 2) wx (some ⟨g, o0, none⟩) (cellsV (rzC cs Wo Wn Hn k 0))) ∧ Hid (Mine V.heap.size wx aN (strs hs)) ∧ Hid (Apart (some ⟨g, o0, none⟩) (cellsV (rzC cs Wo Wn Hn k 0)) aN (strs hs)))
        case first =>
          go_region_held3 (fun w' => ∀ i, w'.cell? ⟨w.heap.size, i, none⟩ = (#[.int .i64 Wo, .int .i64 Ho, .int .i64 x, .int .i64 y, .int .i64 lk, .int .i64 tp, .int .i64 bt, .int .i64 sx, .int .i64 sy, .string ti, .slice aC lenC capC, .slice aH lenH capH] : Array Value)[i]?) (first | with_reducible exact sV | with_reducible exact s6.out | with_reducible exact s7.out | with_reducible exact s8.out | with_reducible exact s9.out | fail)
            (first
            | (go_at_call 39; refine (cloneStrs_any aH lenH capH hs _ (HH0.out.below HB5.out.drew (Nat.le_refl _)) HHL.out (by omega)).mono ?_; rintro e w6 ⟨aN, cN, rfl, hmN, hb60⟩; obtain ⟨w7, w8, w9, e7, e8, e9, s6, s7, s8, s9, y6, f6, y7, f7, y8, f8, y9, t9, tf9, HB9, HM9, HN9, HAP⟩ := HARM.out aN cN w6 hmN hb60; clear hb60 hmN HARM)
            | fail)
          go_wp2_with fail
          go_meet
          exact ⟨aN, cN, y9, t9, tf9, HB9, HM9, HN9, HAP⟩
        case rest =>
          obtain ⟨aN, cN, y9, t9, tf9, HB9, HM9, HN9, HAP⟩ := hcut
          clear HARM sV HH0 HB5
          go_wp2
          exact bodyPost_ret (v := .agg #[.int .i64 (Wn : Int), .int .i64 (Hn : Int), .int .i64 (min x (Wn : Int)), .int .i64 (min y ((Hn : Int) - 1)), .int .i64 lk, .int .i64 0, .int .i64 ((Hn : Int) - 1), .int .i64 (min sx (Wn : Int)), .int .i64 (min sy ((Hn : Int) - 1)), .string ti, .slice (some ⟨g, o0, none⟩) n cap, .slice aN lenH cN]) (by simp [results, Try.results20, t9, go_sem]) rfl ⟨_, cap, _, cN, rfl, hcap, HAP.out, (set12_mine HM9.out (by omega) _ _ _ _ _ _ _ _ _ _ _ _).mono (by omega), (set12_mine HN9.out (by omega) _ _ _ _ _ _ _ _ _ _ _ _).mono (by omega), set12_below HB9.out (by omega) _ _ _ _ _ _ _ _ _ _ _ _⟩
end Go.Proofs.Ytfdodbkopbmjeaa
