/-
  Contract of l04Resize of the reference. Conditions: the screen is valid, the new size is one.
-/
import Derived.Test.YtfdodbkopbmjeaaRzPlain
import Derived.Test.YtfdodbkopbmjeaaScrBytes
import Derived.Test.YtfdodbkopbmjeaaNewScr2
import Derived.Deep.RegionHeld3
namespace Go.Proofs.Ytfdodbkopbmjeaa
open Go.ChangeShapes Go.WideShapes Go.ChangeAt Go.RowKit
set_option linter.unusedVariables false
set_option linter.unusedSimpArgs false
set_option maxRecDepth 100000
attribute [local irreducible] wpList

theorem run_append_zero {P : Program} (w : World) (t ty e : TypeId) (i : TypeInfo) (ht : P.underlying t = some (.slice e)) (hi : P.info? e = some i) (a b : Option Addr) (c c' : Nat) :
    (Builtin.append_ #[t, t] ty #[.slice a 0 c, .slice b 0 c']).run P w = .ok (.slice a 0 c) w := by
  have hl : ∀ (x : Addr), (loadCells x 0).run P w = .ok #[] w := fun x => by simpa using run_loadCells_list (P := P) w x [] (by simp)
  cases a <;> cases b <;> simp [Builtin.append_, run_underlying ht, sizeOf, typeInfo, hi, storeCells, Builtin.firstCells, Builtin.lenOf, hl]

theorem wpList_append_zero {P : Program} {w : World} {ops : Array Oper} {rest : List Oper} {o : Oper} {a : Act} {Q : Exit → Act → World → Prop} (hgd : o.guard = none) (s x : Operand) (t : TypeId)
    (ho : o.op = .call { callee := .builtin .append, args := #[s, x], argTypes := #[t, t] }) (e : TypeId) (i : TypeInfo) (ht : P.underlying t = some (.slice e)) (hi : P.info? e = some i) (d b : Option Addr) (c c' : Nat)
    (hs : a.eval s = .slice d 0 c) (hx : a.eval x = .slice b 0 c') (h : wpList P ops Q rest (a.put o.dst (.slice d 0 c)) w) : wpList P ops Q (o :: rest) a w :=
  wpList_plain hgd fun _ hK => by
    have hr := run_append_zero (P := P) w t o.type e i ht hi d b c c'
    unfold Oper.wp execOp
    simp only [ho, resolve, invoke, builtin, Sem.run_bind, Sem.run_pure, Result.andThen_ok, List.map_toArray, List.map_cons, List.map_nil, hs, hx, hr]
    exact hK _ _ h

set_option maxHeartbeats 8000000 in
theorem l04Resize_nat (Wo Ho : Nat) (x y lk tp bt sx sy : Int) (ti : ByteArray) (aC : Option Addr) (lenC capC : Nat) (cs : List (Int × Int)) (aH : Option Addr) (lenH capH : Nat) (hs : List ByteArray) (Wn Hn : Nat) (w : World) (hc : At w aC (cellsV cs)) (hh : At w aH (strs hs)) (hcc : lenC ≤ capC) (hN : ScrNat Wo Ho lenC lenH x y lk tp bt sx sy ti cs hs) (hS : sizeB (Wn : Int) (Hn : Int) = true) :
    Calls Try.prog 15 #[.agg #[.int .i64 Wo, .int .i64 Ho, .int .i64 x, .int .i64 y, .int .i64 lk, .int .i64 tp, .int .i64 bt, .int .i64 sx, .int .i64 sy, .string ti, .slice aC lenC capC, .slice aH lenH capH], .int .i64 Wn, .int .i64 Hn] w fun e w' => ∃ a' c' b' d', e = .returned (.agg #[.int .i64 (Wn : Int), .int .i64 (Hn : Int), .int .i64 (min x (Wn : Int)), .int .i64 (min y ((Hn : Int) - 1)), .int .i64 lk, .int .i64 0, .int .i64 ((Hn : Int) - 1), .int .i64 (min sx (Wn : Int)), .int .i64 (min sy ((Hn : Int) - 1)), .string ti, .slice a' (Hn * Wn) c', .slice b' lenH d']) ∧ Hn * Wn ≤ c' ∧ Apart a' (cellsV (rzC cs Wo Wn Hn (min Hn Ho) 0)) b' (strs hs) ∧ Mine w.heap.size w' a' (cellsV (rzC cs Wo Wn Hn (min Hn Ho) 0)) ∧ Mine w.heap.size w' b' (strs hs) ∧ Below w.heap.size w w' := by
  obtain ⟨i0, hi, iz0, iz1, iz2⟩ := info_parts Try.info_cell
  obtain ⟨k0, hk0, kz0, kz1, kz2⟩ := info_parts Try.info_istr
  obtain ⟨b1, b2, b3, b4, _, _⟩ := size_facts hS
  have HSZ := Lib.hid hS
  obtain ⟨K, hKd⟩ : ∃ K, min Hn Ho = K := ⟨_, rfl⟩
  rw [hKd]
  have hnn : ((Wn : Int)) * (Hn : Int) = ((Hn * Wn : Nat) : Int) := by rw [Int.natCast_mul, Int.mul_comm]
  obtain ⟨n, hn⟩ : ∃ n, Hn * Wn = n := ⟨_, rfl⟩
  rw [hn] at hnn ⊢
  have hn240 : n ≤ 240 := by rw [← hn]; have := Nat.mul_le_mul (show Hn ≤ 10 by omega) (show Wn ≤ 24 by omega); omega
  have hWn : 2 ≤ Wn := by omega
  have hHn : 2 ≤ Hn := by omega
  have hWo := hN.w2
  have hWo2 := hN.w1
  have hHo2 := hN.h1
  have hHo : 2 ≤ Ho := by have := hN.fits.h0; omega
  have HCL : Hid (cs.length = Wo * Ho) := by show _ = _; rw [hN.cl, hN.cn]
  have HCL2 := Lib.hid hN.cl
  have HHL := Lib.hid hN.hl
  have HNN := Lib.hid hnn
  have HN := Lib.hid hn
  have hlh := hN.hn
  have HRF := Lib.hid (fun k (hk : k < Ho) => row_fit hN.cn hk hN.w1 hN.h1)
  clear hS hnn hn hN
  have H0 : Hid (∀ o1 o2, Below w.heap.size w ((w.alloc o1).alloc o2)) := fun o1 o2 => ((Below.refl _ _).alloc (Nat.le_refl _) _).alloc (by simp) _
  have HX : Hid (∀ o1 o2, ((w.alloc o1).alloc o2).heap[w.heap.size]? = some o1 ∧ ((w.alloc o1).alloc o2).heap[w.heap.size + 1]? = some o2) := fun o1 o2 => by
    have e1 : (w.alloc o1).heap.size = w.heap.size + 1 := by simp
    exact ⟨(Below.heap_alloc _ _ _ (by omega)).trans (heap_alloc_new w _), by rw [← e1]; exact heap_alloc_new _ _⟩
  have HC0 := Lib.hid hc
  have HH0 := Lib.hid hh
  clear hc hh
  go_enter Try.func15, Try.ntmps15
  go_wp2_with fail
  refine (l04New_any (Wn : Int) (Hn : Int) n _ HSZ.out HNN.out).mono ?_
  rintro e w1 ⟨ao, cap, aE, rfl, hcap, hm, hb⟩
  have hz1 : w.heap.size + 2 ≤ w1.heap.size := by have := hb.size; simp at this; omega
  have XS := Lib.hid (box_below (HX.out (.cells #[.int .i64 Wo, .int .i64 Ho, .int .i64 x, .int .i64 y, .int .i64 lk, .int .i64 tp, .int .i64 bt, .int .i64 sx, .int .i64 sy, .string ti, .slice aC lenC capC, .slice aH lenH capH] 29) (.cells #[.int .i64 0, .int .i64 0, .int .i64 0, .int .i64 0, .int .i64 0, .int .i64 0, .int .i64 0, .int .i64 0, .int .i64 0, .string ⟨#[]⟩, .slice none 0 0, .slice none 0 0] 29)).1 hb (by simp; omega))
  have XR := Lib.hid (box_below (HX.out (.cells #[.int .i64 Wo, .int .i64 Ho, .int .i64 x, .int .i64 y, .int .i64 lk, .int .i64 tp, .int .i64 bt, .int .i64 sx, .int .i64 sy, .string ti, .slice aC lenC capC, .slice aH lenH capH] 29) (.cells #[.int .i64 0, .int .i64 0, .int .i64 0, .int .i64 0, .int .i64 0, .int .i64 0, .int .i64 0, .int .i64 0, .int .i64 0, .string ⟨#[]⟩, .slice none 0 0, .slice none 0 0] 29)).2 hb (by simp))
  have B1 : Below w.heap.size w w1 := (H0.out _ _).trans (hb.mono (by simp; omega))
  obtain ⟨g, o0, rfl, hgB, hcg⟩ := hm.get (by intro e; have := congrArg List.length e; rw [length_cellsV, List.length_replicate] at this; have h3 : 2 * n = 0 := this; have := HN.out; have : 1 ≤ Hn * Wn := Nat.mul_pos (by omega) (by omega); omega)
  have hgB2 : w.heap.size + 2 ≤ g := by simp at hgB; omega
  have hgw : g < w1.heap.size := World.block_lt_of_cell? w1 _ (hcg 0 (by rw [length_cellsV, List.length_replicate]; have := HN.out; have : 1 ≤ Hn * Wn := Nat.mul_pos (by omega) (by omega); omega)).1
  have HM1 : Hid (Mine (w.heap.size + 2) w1 (some ⟨g, o0, none⟩) (cellsV (List.replicate n bl))) := .inr ⟨g, o0, rfl, hgB2, hcg⟩
  clear hm hgB hcg hb
  have xs := cells_alloc (box_cells XS.out) (by omega) (.cells #[.int .i64 (Wn : Int), .int .i64 (Hn : Int), .int .i64 0, .int .i64 0, .int .i64 0, .int .i64 0, .int .i64 ((Hn : Int) - 1), .int .i64 0, .int .i64 0, .string ⟨#[]⟩, .slice (some ⟨g, o0, none⟩) n cap, .slice aE 0 0] 29)
  have HMA := Lib.hid (HM1.out.below ((Below.refl w1.heap.size w1).alloc (Nat.le_refl _) (.cells #[.int .i64 (Wn : Int), .int .i64 (Hn : Int), .int .i64 0, .int .i64 0, .int .i64 0, .int .i64 0, .int .i64 ((Hn : Int) - 1), .int .i64 0, .int .i64 0, .string ⟨#[]⟩, .slice (some ⟨g, o0, none⟩) n cap, .slice aE 0 0] 29)) (Nat.le_refl _))
  have XSA := Lib.hid ((Below.heap_alloc w1 (.cells #[.int .i64 (Wn : Int), .int .i64 (Hn : Int), .int .i64 0, .int .i64 0, .int .i64 0, .int .i64 0, .int .i64 ((Hn : Int) - 1), .int .i64 0, .int .i64 0, .string ⟨#[]⟩, .slice (some ⟨g, o0, none⟩) n cap, .slice aE 0 0] 29) w.heap.size (by omega)).trans XS.out)
  have XRA := Lib.hid ((Below.heap_alloc w1 (.cells #[.int .i64 (Wn : Int), .int .i64 (Hn : Int), .int .i64 0, .int .i64 0, .int .i64 0, .int .i64 0, .int .i64 ((Hn : Int) - 1), .int .i64 0, .int .i64 0, .string ⟨#[]⟩, .slice (some ⟨g, o0, none⟩) n cap, .slice aE 0 0] 29) (w.heap.size + 1) (by omega)).trans XR.out)
  have XOA := Lib.hid (box_new w1 (.cells #[.int .i64 (Wn : Int), .int .i64 (Hn : Int), .int .i64 0, .int .i64 0, .int .i64 0, .int .i64 0, .int .i64 ((Hn : Int) - 1), .int .i64 0, .int .i64 0, .string ⟨#[]⟩, .slice (some ⟨g, o0, none⟩) n cap, .slice aE 0 0] 29))
  have BA := B1.alloc B1.size (.cells #[.int .i64 (Wn : Int), .int .i64 (Hn : Int), .int .i64 0, .int .i64 0, .int .i64 0, .int .i64 0, .int .i64 ((Hn : Int) - 1), .int .i64 0, .int .i64 0, .string ⟨#[]⟩, .slice (some ⟨g, o0, none⟩) n cap, .slice aE 0 0] 29)
  have hK : min (Hn : Int) (Ho : Int) = (K : Int) := by omega
  have hK1 : K ≤ Hn := by omega
  have hK2 : K ≤ Ho := by omega
  clear HM1 XS XR B1 hKd
  go_wp2_with fail
  clear xs
  generalize hW : w1.alloc (.cells #[.int .i64 (Wn : Int), .int .i64 (Hn : Int), .int .i64 0, .int .i64 0, .int .i64 0, .int .i64 0, .int .i64 ((Hn : Int) - 1), .int .i64 0, .int .i64 0, .string ⟨#[]⟩, .slice (some ⟨g, o0, none⟩) n cap, .slice aE 0 0] 29) = W at *
  have hzW : w1.heap.size + 1 ≤ W.heap.size := by rw [← hW]; simp
  clear hW
  generalize w1.heap.size = ob at *
  obtain ⟨Km, hKm⟩ : ∃ K, min Wn Wo = K := ⟨_, rfl⟩
  have hM1 : Km ≤ Wn := by omega
  have hM2 : Km ≤ Wo := by omega
  have hMi : min (Wn : Int) (Wo : Int) = (Km : Int) := by omega
  have HKM := Lib.hid hKm
  clear hKm
  go_loopw [8] (fun i wr => ∃ k : Nat, k ≤ K ∧ i = .int .i64 k ∧ Mine (w.heap.size + 2) wr (some ⟨g, o0, none⟩) (cellsV (rzC cs Wo Wn Hn k 0)) ∧ Hid (wr.heap[w.heap.size]? = some (.cells #[.int .i64 Wo, .int .i64 Ho, .int .i64 x, .int .i64 y, .int .i64 lk, .int .i64 tp, .int .i64 bt, .int .i64 sx, .int .i64 sy, .string ti, .slice aC lenC capC, .slice aH lenH capH] 29)) ∧ Hid (wr.heap[w.heap.size + 1]? = some (.cells #[.int .i64 0, .int .i64 0, .int .i64 0, .int .i64 0, .int .i64 0, .int .i64 0, .int .i64 0, .int .i64 0, .int .i64 0, .string ⟨#[]⟩, .slice none 0 0, .slice none 0 0] 29)) ∧ Hid (wr.heap[ob]? = some (.cells #[.int .i64 (Wn : Int), .int .i64 (Hn : Int), .int .i64 0, .int .i64 0, .int .i64 0, .int .i64 0, .int .i64 ((Hn : Int) - 1), .int .i64 0, .int .i64 0, .string ⟨#[]⟩, .slice (some ⟨g, o0, none⟩) n cap, .slice aE 0 0] 29)) ∧ Hid (Below w.heap.size w wr) ∧ W.heap.size ≤ wr.heap.size) (fun i _ => K - (intOf i).toNat)
  case atStart => exact ⟨0, Nat.zero_le _, rfl, by rw [rz_blank, HN.out]; exact HMA.out, XSA.out, XRA.out, XOA.out, BA, Nat.le_refl _⟩
  case round =>
    obtain ⟨k, hk, rfl, hm, gs, gr, go', hB, hzr⟩ := hrel
    clear HMA XSA XRA XOA BA
    have xs := box_cells gs.out
    have xo := box_cells go'.out
    by_cases hkt : k < K
    · have hkn : k < Hn := by omega
      have hko : k < Ho := by omega
      obtain ⟨hf1, hf2⟩ := HRF.out k hko
      obtain ⟨q, hq⟩ : ∃ p, k * Wo = p := ⟨_, rfl⟩
      obtain ⟨p, hp⟩ : ∃ p, k * Wn = p := ⟨_, rfl⟩
      have hpn : p + Wn ≤ n := by
        rw [← hp, ← HN.out, ← Nat.succ_mul]; exact Nat.mul_le_mul_right _ (by omega)
      rw [hq] at hf1
      have m1 : (k : Int) * (Wo : Int) = (q : Int) := by rw [← hq]; simp
      have m3 : (k : Int) * (Wn : Int) = (p : Int) := by rw [← hp]; simp
      have HQ := Lib.hid hq
      have HP := Lib.hid hp
      have i5 : (k : Int) < (K : Int) := by omega
      have HM0 := Lib.hid hm
      clear hq hp hm
      go_wp2_with fail
      go_loopw [9] (fun i wq => ∃ j : Nat, j ≤ Km ∧ i = .int .i64 j ∧ Mine (w.heap.size + 2) wq (some ⟨g, o0, none⟩) (cellsV (rzC cs Wo Wn Hn k j)) ∧ Hid (wq.heap[w.heap.size]? = some (.cells #[.int .i64 Wo, .int .i64 Ho, .int .i64 x, .int .i64 y, .int .i64 lk, .int .i64 tp, .int .i64 bt, .int .i64 sx, .int .i64 sy, .string ti, .slice aC lenC capC, .slice aH lenH capH] 29)) ∧ Hid (wq.heap[w.heap.size + 1]? = some (.cells #[.int .i64 0, .int .i64 0, .int .i64 0, .int .i64 0, .int .i64 0, .int .i64 0, .int .i64 0, .int .i64 0, .int .i64 0, .string ⟨#[]⟩, .slice none 0 0, .slice none 0 0] 29)) ∧ Hid (wq.heap[ob]? = some (.cells #[.int .i64 (Wn : Int), .int .i64 (Hn : Int), .int .i64 0, .int .i64 0, .int .i64 0, .int .i64 0, .int .i64 ((Hn : Int) - 1), .int .i64 0, .int .i64 0, .string ⟨#[]⟩, .slice (some ⟨g, o0, none⟩) n cap, .slice aE 0 0] 29)) ∧ Hid (Below w.heap.size w wq) ∧ W.heap.size ≤ wq.heap.size) (fun i _ => Km - (intOf i).toNat)
      case atStart => exact ⟨0, Nat.zero_le _, rfl, HM0.out, gs, gr, go', hB, hzr⟩
      case round =>
        rename_i wr0
        obtain ⟨j, hj, rfl, hm, gs2, gr2, go2, hB2, hzr2⟩ := hrel
        clear HM0 gs gr go' hB hzr xs xo
        have xs := box_cells gs2.out
        have xo := box_cells go2.out
        by_cases hjt : j < Km
        · have hjk : j < min Wn Wo := by rw [HKM.out]; exact hjt
          have hidx : k * Wo + j < cs.length := by have h1 := HQ.out; have h2 := HCL2.out; omega
          have hset := rz_set HCL.out hko hkn hjk hidx
          obtain ⟨bS, oS, rfl, c0, c1⟩ := (HC0.out.below hB2.out (Nat.le_refl _)).cell2 hidx
          generalize cs[k * Wo + j] = cc at *
          obtain ⟨rr, ss⟩ := cc
          rw [HQ.out] at c0 c1
          rw [HP.out] at hset
          dsimp only at c0 c1
          have hlz : (cellsV (rzC cs Wo Wn Hn k j)).length = 2 * n := by rw [length_cellsV, length_rzC HCL.out hko hkn (by omega), HN.out]
          have hcf := mine_cells hm
          obtain ⟨old, p1, e1⟩ : ∃ old, wr.drew.cell? ⟨g, o0 + (p + j) * 2, none⟩ = some old ∧ wr.drew.frozen? ⟨g, o0 + (p + j) * 2, none⟩ = false := ⟨_, (hcf ((p + j) * 2) (by omega)).1, (hcf ((p + j) * 2) (by omega)).2⟩
          obtain ⟨old2, p2, e2⟩ : ∃ old, wr.drew.cell? ⟨g, o0 + (p + j) * 2 + 1, none⟩ = some old ∧ wr.drew.frozen? ⟨g, o0 + (p + j) * 2 + 1, none⟩ = false := ⟨_, by have := (hcf ((p + j) * 2 + 1) (by omega)).1; rw [← Nat.add_assoc] at this; exact this, by have := (hcf ((p + j) * 2 + 1) (by omega)).2; rw [← Nat.add_assoc] at this; exact this⟩
          have p3 : (wr.setCell ⟨g, o0 + (p + j) * 2, none⟩ (.int .i64 rr)).drew.cell? ⟨g, o0 + (p + j) * 2 + 1, none⟩ = some old2 := (World.cell?_setCell_other wr ⟨g, o0 + (p + j) * 2, none⟩ ⟨g, o0 + (p + j) * 2 + 1, none⟩ _ (by simp <;> omega)).trans p2
          have e3 : (wr.setCell ⟨g, o0 + (p + j) * 2, none⟩ (.int .i64 rr)).drew.frozen? ⟨g, o0 + (p + j) * 2 + 1, none⟩ = false := (World.frozen?_setCell wr ⟨g, o0 + (p + j) * 2, none⟩ ⟨g, o0 + (p + j) * 2 + 1, none⟩ _).trans e2
          have d0 : wr.drew.cell? ⟨bS, oS + (q + j) * 2, none⟩ = some (.int .i64 rr) := c0
          have d1 : wr.drew.cell? ⟨bS, oS + (q + j) * 2 + 1, none⟩ = some (.int .i64 ss) := c1
          have xsd : ∀ i, wr.drew.cell? ⟨w.heap.size, i, none⟩ = _ := xs
          have xod : ∀ i, wr.drew.cell? ⟨ob, i, none⟩ = _ := xo
          have HS2 : Hid (Mine (w.heap.size + 2) ((wr.setCell ⟨g, o0 + (p + j) * 2, none⟩ (.int .i64 rr)).setCell ⟨g, o0 + (p + j) * 2 + 1, none⟩ (.int .i64 ss)) (some ⟨g, o0, none⟩) (cellsV (rzC cs Wo Wn Hn k (j + 1)))) := by
            have g1 := Mine.store hgB2 hcf ((p + j) * 2) (.int .i64 rr)
            have g2 := Mine.store hgB2 g1 ((p + j) * 2 + 1) (.int .i64 ss)
            rw [cellsV_set _ (p + j) (by rw [length_rzC HCL.out hko hkn (by omega), HN.out]; omega), hset] at g2
            refine .inr ⟨g, o0, rfl, hgB2, ?_⟩
            simpa only [Nat.add_assoc] using g2
          have gs3 : Hid (((wr.setCell ⟨g, o0 + (p + j) * 2, none⟩ (.int .i64 rr)).setCell ⟨g, o0 + (p + j) * 2 + 1, none⟩ (.int .i64 ss)).heap[w.heap.size]? = some (.cells #[.int .i64 Wo, .int .i64 Ho, .int .i64 x, .int .i64 y, .int .i64 lk, .int .i64 tp, .int .i64 bt, .int .i64 sx, .int .i64 sy, .string ti, .slice (some ⟨bS, oS, none⟩) lenC capC, .slice aH lenH capH] 29)) := ((Below.heap_setCell _ _ _ _ (show w.heap.size ≠ g by omega)).trans (Below.heap_setCell _ _ _ _ (show w.heap.size ≠ g by omega))).trans gs2.out
          have gr3 : Hid (((wr.setCell ⟨g, o0 + (p + j) * 2, none⟩ (.int .i64 rr)).setCell ⟨g, o0 + (p + j) * 2 + 1, none⟩ (.int .i64 ss)).heap[w.heap.size + 1]? = _) := ((Below.heap_setCell _ _ _ _ (show w.heap.size + 1 ≠ g by omega)).trans (Below.heap_setCell _ _ _ _ (show w.heap.size + 1 ≠ g by omega))).trans gr2.out
          have go3 : Hid (((wr.setCell ⟨g, o0 + (p + j) * 2, none⟩ (.int .i64 rr)).setCell ⟨g, o0 + (p + j) * 2 + 1, none⟩ (.int .i64 ss)).heap[ob]? = _) := ((Below.heap_setCell _ _ _ _ (show ob ≠ g by omega)).trans (Below.heap_setCell _ _ _ _ (show ob ≠ g by omega))).trans go2.out
          have hB3 : Hid (Below w.heap.size w ((wr.setCell ⟨g, o0 + (p + j) * 2, none⟩ (.int .i64 rr)).setCell ⟨g, o0 + (p + j) * 2 + 1, none⟩ (.int .i64 ss)).drew) := ((hB2.out.setCell (p := ⟨g, o0 + (p + j) * 2, none⟩) (show w.heap.size ≤ g by omega) (.int .i64 rr)).setCell (p := ⟨g, o0 + (p + j) * 2 + 1, none⟩) (show w.heap.size ≤ g by omega) (.int .i64 ss)).drew
          have hz3 : W.heap.size ≤ ((wr.setCell ⟨g, o0 + (p + j) * 2, none⟩ (.int .i64 rr)).setCell ⟨g, o0 + (p + j) * 2 + 1, none⟩ (.int .i64 ss)).heap.size := by simpa [World.setCell] using hzr2
          have i1 : (0 : Int) ≤ (p : Int) + (j : Int) := by omega
          have i2 : (p : Int) + (j : Int) < (n : Int) := by omega
          have i3 : ((p : Int) + (j : Int)).toNat = p + j := by omega
          have j1 : (0 : Int) ≤ (q : Int) + (j : Int) := by omega
          have j2 : (q : Int) + (j : Int) < (lenC : Int) := by have := HQ.out; omega
          have j3 : ((q : Int) + (j : Int)).toNat = q + j := by omega
          have i6 : (j : Int) < (Km : Int) := by omega
          have u1 : p ≤ 240 := by omega
          have u2 : q ≤ 240 := by omega
          clear hcf hlz hm c0 c1 hset hidx hjk gs2 gr2 go2 hB2 hzr2
          go_wp2_with fail
          go_region
          go_wp2
          go_roundw
          case rel => exact ⟨j + 1, by omega, by go_num, HS2.out, gs3, gr3, go3, hB3, hz3⟩
          case measure => simp [intOf]; omega
        · have hjK : j = Km := by omega
          subst hjK
          have i6 : (j : Int) ≤ (j : Int) := Int.le_refl _
          have HMK : Hid (Mine (w.heap.size + 2) wr (some ⟨g, o0, none⟩) (cellsV (rzC cs Wo Wn Hn (k + 1) 0))) := by
            have := rz_row HCL.out hko hkn (Wn := Wn)
            rw [HKM.out] at this
            show Mine _ _ _ _
            rw [← this]; exact hm
          clear hm
          go_wp2
          go_roundw
          case rel => exact ⟨k + 1, by omega, by go_num, HMK.out, gs2, gr2, go2, hB2, hzr2⟩
          case measure => simp [intOf]; omega
    · have hkK : k = K := by omega
      subst hkK
      have i5 : (k : Int) ≤ (k : Int) := Int.le_refl _
      have hne : w.heap.size ≠ ob := by omega
      have hgo : g ≠ ob := by omega
      have v1 : IntKind.i64.wrap ((Hn : Int) - 1) = (Hn : Int) - 1 := by rw [IntKind.wrap_i64]; omega
      have f0 := box_free go'.out
      have HM5 := Lib.hid hm
      clear hm HC0 HRF
      --TAIL
      have P0 := go'.out
      have Q0 := gs.out
      have T0 := gr.out
      have HB0 : Hid (Below w.heap.size w wr) := hB
      obtain ⟨V1, e1⟩ : ∃ W, wr.setCell ⟨ob, 2, none⟩ (.int .i64 (min x (Wn : Int))) = W := ⟨_, rfl⟩
      have P1 : V1.heap[ob]? = some (.cells #[.int .i64 (Wn : Int), .int .i64 (Hn : Int), .int .i64 (min x (Wn : Int)), .int .i64 0, .int .i64 0, .int .i64 0, .int .i64 ((Hn : Int) - 1), .int .i64 0, .int .i64 0, .string ⟨#[]⟩, .slice (some ⟨g, o0, none⟩) n cap, .slice aE 0 0] 29) := by rw [← e1, heap_setCell_same wr ob 2 _ _ _ P0]; simp
      have Q1 : V1.heap[w.heap.size]? = some (.cells #[.int .i64 Wo, .int .i64 Ho, .int .i64 x, .int .i64 y, .int .i64 lk, .int .i64 tp, .int .i64 bt, .int .i64 sx, .int .i64 sy, .string ti, .slice aC lenC capC, .slice aH lenH capH] 29) := by rw [← e1]; exact (Below.heap_setCell _ _ _ _ hne).trans Q0
      have T1 : V1.heap[w.heap.size + 1]? = some (.cells #[.int .i64 0, .int .i64 0, .int .i64 0, .int .i64 0, .int .i64 0, .int .i64 0, .int .i64 0, .int .i64 0, .int .i64 0, .string ⟨#[]⟩, .slice none 0 0, .slice none 0 0] 29) := by rw [← e1]; exact (Below.heap_setCell _ _ _ _ (show w.heap.size + 1 ≠ ob by omega)).trans T0
      have HB1 : Hid (Below w.heap.size w V1) := by show Below _ _ _; rw [← e1]; exact HB0.out.setCell (p := ⟨ob, 2, none⟩) (show w.heap.size ≤ ob by omega) _
      replace HM5 : Hid (Mine (w.heap.size + 2) V1 (some ⟨g, o0, none⟩) (cellsV (rzC cs Wo Wn Hn k 0))) := by show Mine _ _ _ _; rw [← e1]; exact mine_set_ne HM5.out hgo _ _
      have z1 : W.heap.size ≤ V1.heap.size := by rw [← e1]; simpa [World.setCell] using hzr
      have y1 := box_cells P1
      have s1 := box_cells Q1
      have f1 := box_free P1
      obtain ⟨V2, e2⟩ : ∃ W, V1.setCell ⟨ob, 3, none⟩ (.int .i64 (min y ((Hn : Int) - 1))) = W := ⟨_, rfl⟩
      have P2 : V2.heap[ob]? = some (.cells #[.int .i64 (Wn : Int), .int .i64 (Hn : Int), .int .i64 (min x (Wn : Int)), .int .i64 (min y ((Hn : Int) - 1)), .int .i64 0, .int .i64 0, .int .i64 ((Hn : Int) - 1), .int .i64 0, .int .i64 0, .string ⟨#[]⟩, .slice (some ⟨g, o0, none⟩) n cap, .slice aE 0 0] 29) := by rw [← e2, heap_setCell_same V1 ob 3 _ _ _ P1]; simp
      have Q2 : V2.heap[w.heap.size]? = some (.cells #[.int .i64 Wo, .int .i64 Ho, .int .i64 x, .int .i64 y, .int .i64 lk, .int .i64 tp, .int .i64 bt, .int .i64 sx, .int .i64 sy, .string ti, .slice aC lenC capC, .slice aH lenH capH] 29) := by rw [← e2]; exact (Below.heap_setCell _ _ _ _ hne).trans Q1
      have T2 : V2.heap[w.heap.size + 1]? = some (.cells #[.int .i64 0, .int .i64 0, .int .i64 0, .int .i64 0, .int .i64 0, .int .i64 0, .int .i64 0, .int .i64 0, .int .i64 0, .string ⟨#[]⟩, .slice none 0 0, .slice none 0 0] 29) := by rw [← e2]; exact (Below.heap_setCell _ _ _ _ (show w.heap.size + 1 ≠ ob by omega)).trans T1
      have HB2 : Hid (Below w.heap.size w V2) := by show Below _ _ _; rw [← e2]; exact HB1.out.setCell (p := ⟨ob, 3, none⟩) (show w.heap.size ≤ ob by omega) _
      replace HM5 : Hid (Mine (w.heap.size + 2) V2 (some ⟨g, o0, none⟩) (cellsV (rzC cs Wo Wn Hn k 0))) := by show Mine _ _ _ _; rw [← e2]; exact mine_set_ne HM5.out hgo _ _
      have z2 : W.heap.size ≤ V2.heap.size := by rw [← e2]; simpa [World.setCell] using z1
      have y2 := box_cells P2
      have s2 := box_cells Q2
      have f2 := box_free P2
      obtain ⟨V3, e3⟩ : ∃ W, V2.setCell ⟨ob, 7, none⟩ (.int .i64 (min sx (Wn : Int))) = W := ⟨_, rfl⟩
      have P3 : V3.heap[ob]? = some (.cells #[.int .i64 (Wn : Int), .int .i64 (Hn : Int), .int .i64 (min x (Wn : Int)), .int .i64 (min y ((Hn : Int) - 1)), .int .i64 0, .int .i64 0, .int .i64 ((Hn : Int) - 1), .int .i64 (min sx (Wn : Int)), .int .i64 0, .string ⟨#[]⟩, .slice (some ⟨g, o0, none⟩) n cap, .slice aE 0 0] 29) := by rw [← e3, heap_setCell_same V2 ob 7 _ _ _ P2]; simp
      have Q3 : V3.heap[w.heap.size]? = some (.cells #[.int .i64 Wo, .int .i64 Ho, .int .i64 x, .int .i64 y, .int .i64 lk, .int .i64 tp, .int .i64 bt, .int .i64 sx, .int .i64 sy, .string ti, .slice aC lenC capC, .slice aH lenH capH] 29) := by rw [← e3]; exact (Below.heap_setCell _ _ _ _ hne).trans Q2
      have T3 : V3.heap[w.heap.size + 1]? = some (.cells #[.int .i64 0, .int .i64 0, .int .i64 0, .int .i64 0, .int .i64 0, .int .i64 0, .int .i64 0, .int .i64 0, .int .i64 0, .string ⟨#[]⟩, .slice none 0 0, .slice none 0 0] 29) := by rw [← e3]; exact (Below.heap_setCell _ _ _ _ (show w.heap.size + 1 ≠ ob by omega)).trans T2
      have HB3 : Hid (Below w.heap.size w V3) := by show Below _ _ _; rw [← e3]; exact HB2.out.setCell (p := ⟨ob, 7, none⟩) (show w.heap.size ≤ ob by omega) _
      replace HM5 : Hid (Mine (w.heap.size + 2) V3 (some ⟨g, o0, none⟩) (cellsV (rzC cs Wo Wn Hn k 0))) := by show Mine _ _ _ _; rw [← e3]; exact mine_set_ne HM5.out hgo _ _
      have z3 : W.heap.size ≤ V3.heap.size := by rw [← e3]; simpa [World.setCell] using z2
      have y3 := box_cells P3
      have s3 := box_cells Q3
      have f3 := box_free P3
      obtain ⟨V4, e4⟩ : ∃ W, V3.setCell ⟨ob, 8, none⟩ (.int .i64 (min sy ((Hn : Int) - 1))) = W := ⟨_, rfl⟩
      have P4 : V4.heap[ob]? = some (.cells #[.int .i64 (Wn : Int), .int .i64 (Hn : Int), .int .i64 (min x (Wn : Int)), .int .i64 (min y ((Hn : Int) - 1)), .int .i64 0, .int .i64 0, .int .i64 ((Hn : Int) - 1), .int .i64 (min sx (Wn : Int)), .int .i64 (min sy ((Hn : Int) - 1)), .string ⟨#[]⟩, .slice (some ⟨g, o0, none⟩) n cap, .slice aE 0 0] 29) := by rw [← e4, heap_setCell_same V3 ob 8 _ _ _ P3]; simp
      have Q4 : V4.heap[w.heap.size]? = some (.cells #[.int .i64 Wo, .int .i64 Ho, .int .i64 x, .int .i64 y, .int .i64 lk, .int .i64 tp, .int .i64 bt, .int .i64 sx, .int .i64 sy, .string ti, .slice aC lenC capC, .slice aH lenH capH] 29) := by rw [← e4]; exact (Below.heap_setCell _ _ _ _ hne).trans Q3
      have T4 : V4.heap[w.heap.size + 1]? = some (.cells #[.int .i64 0, .int .i64 0, .int .i64 0, .int .i64 0, .int .i64 0, .int .i64 0, .int .i64 0, .int .i64 0, .int .i64 0, .string ⟨#[]⟩, .slice none 0 0, .slice none 0 0] 29) := by rw [← e4]; exact (Below.heap_setCell _ _ _ _ (show w.heap.size + 1 ≠ ob by omega)).trans T3
      have HB4 : Hid (Below w.heap.size w V4) := by show Below _ _ _; rw [← e4]; exact HB3.out.setCell (p := ⟨ob, 8, none⟩) (show w.heap.size ≤ ob by omega) _
      replace HM5 : Hid (Mine (w.heap.size + 2) V4 (some ⟨g, o0, none⟩) (cellsV (rzC cs Wo Wn Hn k 0))) := by show Mine _ _ _ _; rw [← e4]; exact mine_set_ne HM5.out hgo _ _
      have z4 : W.heap.size ≤ V4.heap.size := by rw [← e4]; simpa [World.setCell] using z3
      have y4 := box_cells P4
      have s4 := box_cells Q4
      have f4 := box_free P4
      obtain ⟨V5, e5⟩ : ∃ W, V4.setCell ⟨ob, 4, none⟩ (.int .i64 lk) = W := ⟨_, rfl⟩
      have P5 : V5.heap[ob]? = some (.cells #[.int .i64 (Wn : Int), .int .i64 (Hn : Int), .int .i64 (min x (Wn : Int)), .int .i64 (min y ((Hn : Int) - 1)), .int .i64 lk, .int .i64 0, .int .i64 ((Hn : Int) - 1), .int .i64 (min sx (Wn : Int)), .int .i64 (min sy ((Hn : Int) - 1)), .string ⟨#[]⟩, .slice (some ⟨g, o0, none⟩) n cap, .slice aE 0 0] 29) := by rw [← e5, heap_setCell_same V4 ob 4 _ _ _ P4]; simp
      have Q5 : V5.heap[w.heap.size]? = some (.cells #[.int .i64 Wo, .int .i64 Ho, .int .i64 x, .int .i64 y, .int .i64 lk, .int .i64 tp, .int .i64 bt, .int .i64 sx, .int .i64 sy, .string ti, .slice aC lenC capC, .slice aH lenH capH] 29) := by rw [← e5]; exact (Below.heap_setCell _ _ _ _ hne).trans Q4
      have T5 : V5.heap[w.heap.size + 1]? = some (.cells #[.int .i64 0, .int .i64 0, .int .i64 0, .int .i64 0, .int .i64 0, .int .i64 0, .int .i64 0, .int .i64 0, .int .i64 0, .string ⟨#[]⟩, .slice none 0 0, .slice none 0 0] 29) := by rw [← e5]; exact (Below.heap_setCell _ _ _ _ (show w.heap.size + 1 ≠ ob by omega)).trans T4
      have HB5 : Hid (Below w.heap.size w V5) := by show Below _ _ _; rw [← e5]; exact HB4.out.setCell (p := ⟨ob, 4, none⟩) (show w.heap.size ≤ ob by omega) _
      replace HM5 : Hid (Mine (w.heap.size + 2) V5 (some ⟨g, o0, none⟩) (cellsV (rzC cs Wo Wn Hn k 0))) := by show Mine _ _ _ _; rw [← e5]; exact mine_set_ne HM5.out hgo _ _
      have z5 : W.heap.size ≤ V5.heap.size := by rw [← e5]; simpa [World.setCell] using z4
      have y5 := box_cells P5
      have s5 := box_cells Q5
      have f5 := box_free P5
      obtain ⟨V6, e6⟩ : ∃ W, V5.setCell ⟨ob, 9, none⟩ (.string ti) = W := ⟨_, rfl⟩
      have P6 : V6.heap[ob]? = some (.cells #[.int .i64 (Wn : Int), .int .i64 (Hn : Int), .int .i64 (min x (Wn : Int)), .int .i64 (min y ((Hn : Int) - 1)), .int .i64 lk, .int .i64 0, .int .i64 ((Hn : Int) - 1), .int .i64 (min sx (Wn : Int)), .int .i64 (min sy ((Hn : Int) - 1)), .string ti, .slice (some ⟨g, o0, none⟩) n cap, .slice aE 0 0] 29) := by rw [← e6, heap_setCell_same V5 ob 9 _ _ _ P5]; simp
      have Q6 : V6.heap[w.heap.size]? = some (.cells #[.int .i64 Wo, .int .i64 Ho, .int .i64 x, .int .i64 y, .int .i64 lk, .int .i64 tp, .int .i64 bt, .int .i64 sx, .int .i64 sy, .string ti, .slice aC lenC capC, .slice aH lenH capH] 29) := by rw [← e6]; exact (Below.heap_setCell _ _ _ _ hne).trans Q5
      have T6 : V6.heap[w.heap.size + 1]? = some (.cells #[.int .i64 0, .int .i64 0, .int .i64 0, .int .i64 0, .int .i64 0, .int .i64 0, .int .i64 0, .int .i64 0, .int .i64 0, .string ⟨#[]⟩, .slice none 0 0, .slice none 0 0] 29) := by rw [← e6]; exact (Below.heap_setCell _ _ _ _ (show w.heap.size + 1 ≠ ob by omega)).trans T5
      have HB6 : Hid (Below w.heap.size w V6) := by show Below _ _ _; rw [← e6]; exact HB5.out.setCell (p := ⟨ob, 9, none⟩) (show w.heap.size ≤ ob by omega) _
      replace HM5 : Hid (Mine (w.heap.size + 2) V6 (some ⟨g, o0, none⟩) (cellsV (rzC cs Wo Wn Hn k 0))) := by show Mine _ _ _ _; rw [← e6]; exact mine_set_ne HM5.out hgo _ _
      have z6 : W.heap.size ≤ V6.heap.size := by rw [← e6]; simpa [World.setCell] using z5
      have y6 := box_cells P6
      have s6 := box_cells Q6
      have f6 := box_free P6
      have HP6 := Lib.hid P6
      have HQ6 := Lib.hid Q6
      have HT6 := Lib.hid T6
      obtain ⟨VA, eA⟩ : ∃ W, V6.alloc (.cells #[] 9) = W := ⟨_, rfl⟩
      have zA : V6.heap.size + 1 ≤ VA.heap.size := by rw [← eA]; simp
      have sA : ∀ i, VA.cell? ⟨w.heap.size, i, none⟩ = (#[.int .i64 Wo, .int .i64 Ho, .int .i64 x, .int .i64 y, .int .i64 lk, .int .i64 tp, .int .i64 bt, .int .i64 sx, .int .i64 sy, .string ti, .slice aC lenC capC, .slice aH lenH capH] : Array Value)[i]? := by rw [← eA]; exact cells_alloc s6 (by omega) _
      have PA : VA.heap[ob]? = some (.cells #[.int .i64 (Wn : Int), .int .i64 (Hn : Int), .int .i64 (min x (Wn : Int)), .int .i64 (min y ((Hn : Int) - 1)), .int .i64 lk, .int .i64 0, .int .i64 ((Hn : Int) - 1), .int .i64 (min sx (Wn : Int)), .int .i64 (min sy ((Hn : Int) - 1)), .string ti, .slice (some ⟨g, o0, none⟩) n cap, .slice aE 0 0] 29) := by rw [← eA]; exact (Below.heap_alloc V6 _ ob (by omega)).trans P6
      have TA : VA.heap[w.heap.size + 1]? = some (.cells #[.int .i64 0, .int .i64 0, .int .i64 0, .int .i64 0, .int .i64 0, .int .i64 0, .int .i64 0, .int .i64 0, .int .i64 0, .string ⟨#[]⟩, .slice none 0 0, .slice none 0 0] 29) := by rw [← eA]; exact (Below.heap_alloc V6 _ (w.heap.size + 1) (by omega)).trans T6
      have HBA : Hid (Below w.heap.size w VA) := by show Below _ _ _; rw [← eA]; exact HB6.out.alloc HB6.out.size _
      have HMA : Hid (Mine (w.heap.size + 2) VA (some ⟨g, o0, none⟩) (cellsV (rzC cs Wo Wn Hn k 0))) := by show Mine _ _ _ _; rw [← eA]; exact HM5.out.below ((Below.refl V6.heap.size V6).alloc (Nat.le_refl _) _) (Nat.le_refl _)
      have hoA : ob < V6.heap.size := by omega
      have hgA : g < V6.heap.size := by omega
      have hlhs := hlh
      have HMADE : Hid (VA.ownsRow V6.heap.size 9 1 (.slice (some ⟨V6.heap.size, 0, none⟩) 0 0) 0 []) := by show VA.ownsRow _ _ _ _ _ _; rw [← eA]; exact World.ownsRow_made (base := V6.heap.size) (e := 9) (size := 1) V6 #[] 0 (Nat.le_refl _) (Nat.zero_le _) rfl
      clear P0 P1 P2 P3 P4 P5 P6 Q0 Q1 Q2 Q3 Q4 Q5 Q6 T0 T1 T2 T3 T4 T5 T6 gs gr go' hB HB0 HB1 HB2 HB3 HB4 HB5 HM5 z1 z2 z3 z4 z5 hzr
      by_cases h0 : lenH = 0
      · subst h0
        have hs0 : hs = [] := by have := HHL.out; exact List.length_eq_zero_iff.mp this
        have yA := box_cells PA
        have fA := box_free PA
        obtain ⟨VB, eB⟩ : ∃ W, VA.setCell ⟨ob, 11, none⟩ (.slice (some ⟨V6.heap.size, 0, none⟩) 0 0) = W := ⟨_, rfl⟩
        have PB : VB.heap[ob]? = some (.cells #[.int .i64 (Wn : Int), .int .i64 (Hn : Int), .int .i64 (min x (Wn : Int)), .int .i64 (min y ((Hn : Int) - 1)), .int .i64 lk, .int .i64 0, .int .i64 ((Hn : Int) - 1), .int .i64 (min sx (Wn : Int)), .int .i64 (min sy ((Hn : Int) - 1)), .string ti, .slice (some ⟨g, o0, none⟩) n cap, .slice (some ⟨V6.heap.size, 0, none⟩) 0 0] 29) := by rw [← eB, heap_setCell_same VA ob 11 _ _ _ PA]; simp
        have TB : VB.heap[w.heap.size + 1]? = some (.cells #[.int .i64 0, .int .i64 0, .int .i64 0, .int .i64 0, .int .i64 0, .int .i64 0, .int .i64 0, .int .i64 0, .int .i64 0, .string ⟨#[]⟩, .slice none 0 0, .slice none 0 0] 29) := by rw [← eB]; exact (Below.heap_setCell _ _ _ _ (show w.heap.size + 1 ≠ ob by omega)).trans TA
        have HBB : Hid (Below w.heap.size w VB) := by show Below _ _ _; rw [← eB]; exact HBA.out.setCell (p := ⟨ob, 11, none⟩) (show w.heap.size ≤ ob by omega) _
        have HMB : Hid (Mine (w.heap.size + 2) VB (some ⟨g, o0, none⟩) (cellsV (rzC cs Wo Wn Hn k 0))) := by show Mine _ _ _ _; rw [← eB]; exact mine_set_ne HMA.out hgo _ _
        have yB := box_cells PB
        have tB := box_cells TB
        have tfB := box_free TB
        clear PB TB PA TA HMADE HH0 HHL
        go_wp2_with (at_builtin; refine wpList_append_zero rfl _ _ 23 rfl 9 k0 Try.underlying23 hk0 _ _ 0 capH rfl rfl ?_)
        exact bodyPost_ret (v := .agg #[.int .i64 (Wn : Int), .int .i64 (Hn : Int), .int .i64 (min x (Wn : Int)), .int .i64 (min y ((Hn : Int) - 1)), .int .i64 lk, .int .i64 0, .int .i64 ((Hn : Int) - 1), .int .i64 (min sx (Wn : Int)), .int .i64 (min sy ((Hn : Int) - 1)), .string ti, .slice (some ⟨g, o0, none⟩) n cap, .slice (some ⟨V6.heap.size, 0, none⟩) 0 0]) (by simp [results, Try.results15, tB, go_sem]) rfl ⟨_, cap, _, 0, rfl, hcap, .inr (.inl (by rw [hs0]; rfl)), (set12_mine HMB.out (by omega) _ _ _ _ _ _ _ _ _ _ _ _).mono (by omega), .inl (by rw [hs0]; rfl), set12_below HBB.out (by omega) _ _ _ _ _ _ _ _ _ _ _ _⟩
      · obtain ⟨bH, oH, rfl, hcH⟩ := HH0.out.get (by intro e; have := congrArg List.length e; rw [length_strs, HHL.out] at this; exact h0 this)
        have HNW : Hid (∀ j u, (strs hs)[j]? = some u → VA.cell? (Addr.add ⟨bH, oH, none⟩ j) = some u) := fun j u hu => by
          obtain ⟨hj, rfl⟩ := List.getElem?_eq_some_iff.mp hu
          have e : Addr.add ⟨bH, oH, none⟩ j = ⟨bH, oH + j, none⟩ := by simp [Addr.add]
          rw [e]
          exact (HBA.out.cell (p := ⟨bH, oH + j, none⟩) (World.block_lt_of_cell? w _ (hcH j hj))).trans (hcH j hj)
        have hl0 : 0 < lenH := by omega
        clear hcH h0
        have HARM : Hid (∀ (g2 cap2 : Nat) (w2 : World), w2.ownsRow V6.heap.size 9 1 (.slice (some ⟨g2, 0, none⟩) lenH cap2) lenH (strs hs) → VA.grownBy w2 (some V6.heap.size) → ∃ wC, w2.setCell ⟨ob, 11, none⟩ (.slice (some ⟨g2, 0, none⟩) lenH cap2) = wC ∧ (∀ i, w2.cell? ⟨ob, i, none⟩ = (#[.int .i64 (Wn : Int), .int .i64 (Hn : Int), .int .i64 (min x (Wn : Int)), .int .i64 (min y ((Hn : Int) - 1)), .int .i64 lk, .int .i64 0, .int .i64 ((Hn : Int) - 1), .int .i64 (min sx (Wn : Int)), .int .i64 (min sy ((Hn : Int) - 1)), .string ti, .slice (some ⟨g, o0, none⟩) n cap, .slice aE 0 0] : Array Value)[i]?) ∧ (∀ i, w2.frozen? ⟨ob, i, none⟩ = false) ∧ (∀ i, wC.cell? ⟨ob, i, none⟩ = (#[.int .i64 (Wn : Int), .int .i64 (Hn : Int), .int .i64 (min x (Wn : Int)), .int .i64 (min y ((Hn : Int) - 1)), .int .i64 lk, .int .i64 0, .int .i64 ((Hn : Int) - 1), .int .i64 (min sx (Wn : Int)), .int .i64 (min sy ((Hn : Int) - 1)), .string ti, .slice (some ⟨g, o0, none⟩) n cap, .slice (some ⟨g2, 0, none⟩) lenH cap2] : Array Value)[i]?) ∧ (∀ i, wC.cell? ⟨w.heap.size + 1, i, none⟩ = (#[.int .i64 0, .int .i64 0, .int .i64 0, .int .i64 0, .int .i64 0, .int .i64 0, .int .i64 0, .int .i64 0, .int .i64 0, .string ⟨#[]⟩, .slice none 0 0, .slice none 0 0] : Array Value)[i]?) ∧ (∀ i, wC.frozen? ⟨w.heap.size + 1, i, none⟩ = false) ∧ Hid (Below w.heap.size w wC) ∧ Hid (Mine (w.heap.size + 2) wC (some ⟨g, o0, none⟩) (cellsV (rzC cs Wo Wn Hn k 0))) ∧ Hid (Mine V6.heap.size wC (some ⟨g2, 0, none⟩) (strs hs)) ∧ Hid (Apart (some ⟨g, o0, none⟩) (cellsV (rzC cs Wo Wn Hn k 0)) (some ⟨g2, 0, none⟩) (strs hs))) := fun g2 cap2 w2 hown2 hgrow2 => by
          have hgv : V6.heap.size ≤ g2 := (hown2.lt g2 rfl).1
          have PC := (hgrow2.block ob (by omega) (by simp [Value.ownBlock]; omega)).trans PA
          have TC := (hgrow2.block (w.heap.size + 1) (by omega) (by simp [Value.ownBlock]; omega)).trans TA
          have HBC : Hid (Below w.heap.size w w2) := HBA.out.grown hgrow2 HBA.out.size (fun j hj => by simp [Value.ownBlock] at hj; omega)
          have HMC : Hid (Mine (w.heap.size + 2) w2 (some ⟨g, o0, none⟩) (cellsV (rzC cs Wo Wn Hn k 0))) := HMA.out.grownBy hgrow2 (.inr (by simp [blk, Value.ownBlock]; omega))
          have HNC : Hid (Mine V6.heap.size w2 (some ⟨g2, 0, none⟩) (strs hs)) := (by obtain ⟨a9, c9, e9, hm9⟩ := mine_of_owns hown2; cases e9; exact hm9)
          have HAP : Hid (Apart (some ⟨g, o0, none⟩) (cellsV (rzC cs Wo Wn Hn k 0)) (some ⟨g2, 0, none⟩) (strs hs)) := .inr (.inr (by simp [blk]; omega))
          have yC := box_cells PC
          have fC := box_free PC
          obtain ⟨wC, eC⟩ : ∃ W, w2.setCell ⟨ob, 11, none⟩ (.slice (some ⟨g2, 0, none⟩) lenH cap2) = W := ⟨_, rfl⟩
          have P3 : wC.heap[ob]? = some (.cells #[.int .i64 (Wn : Int), .int .i64 (Hn : Int), .int .i64 (min x (Wn : Int)), .int .i64 (min y ((Hn : Int) - 1)), .int .i64 lk, .int .i64 0, .int .i64 ((Hn : Int) - 1), .int .i64 (min sx (Wn : Int)), .int .i64 (min sy ((Hn : Int) - 1)), .string ti, .slice (some ⟨g, o0, none⟩) n cap, .slice (some ⟨g2, 0, none⟩) lenH cap2] 29) := (by rw [← eC, heap_setCell_same w2 ob 11 _ _ _ PC]; simp)
          have T3 : wC.heap[w.heap.size + 1]? = some (.cells #[.int .i64 0, .int .i64 0, .int .i64 0, .int .i64 0, .int .i64 0, .int .i64 0, .int .i64 0, .int .i64 0, .int .i64 0, .string ⟨#[]⟩, .slice none 0 0, .slice none 0 0] 29) := (by rw [← eC]; exact (Below.heap_setCell _ _ _ _ (show w.heap.size + 1 ≠ ob by omega)).trans TC)
          have HB3 : Hid (Below w.heap.size w wC) := (by show Below _ _ _; rw [← eC]; exact HBC.out.setCell (p := ⟨ob, 11, none⟩) (show w.heap.size ≤ ob by omega) _)
          have HM3 : Hid (Mine (w.heap.size + 2) wC (some ⟨g, o0, none⟩) (cellsV (rzC cs Wo Wn Hn k 0))) := (by show Mine _ _ _ _; rw [← eC]; exact mine_set_ne HMC.out hgo _ _)
          have HN3 : Hid (Mine V6.heap.size wC (some ⟨g2, 0, none⟩) (strs hs)) := (by show Mine _ _ _ _; rw [← eC]; exact HNC.out.set_other (p := ⟨ob, 11, none⟩) (show ob < V6.heap.size by omega) _)
          have yD := box_cells P3
          have tD := box_cells T3
          have tfD := box_free T3
          exact ⟨wC, eC, yC, fC, yD, tD, tfD, HB3, HM3, HN3, HAP⟩
        clear PA TA
        go_wp2_with (at_builtin; refine wpList_append_lies _ rfl _ _ 23 rfl V6.heap.size 9 k0 (.string ⟨#[]⟩) 1 16 Try.underlying23 hk0 kz0 kz1 kz2 rfl (by decide) _ _ _ rfl HMADE.out ⟨bH, oH, none⟩ lenH capH (strs hs) rfl (by rw [length_strs, HHL.out, Nat.mul_one]) HNW.out (strs_one _) hl0 (by unfold maxLen; omega) (by omega) (by omega) _ rfl ?_; intro g2 cap2 w2 hown2 hgrow2 hlie2 hlt2; rw [Nat.zero_add] at hown2; rw [List.nil_append] at hown2; obtain ⟨wC, eC, yC, fC, yD, tD, tfD, HB3, HM3, HN3, HAP⟩ := HARM.out g2 cap2 w2 hown2 hgrow2; clear hown2 hgrow2 hlie2 hlt2)
        exact bodyPost_ret (v := .agg #[.int .i64 (Wn : Int), .int .i64 (Hn : Int), .int .i64 (min x (Wn : Int)), .int .i64 (min y ((Hn : Int) - 1)), .int .i64 lk, .int .i64 0, .int .i64 ((Hn : Int) - 1), .int .i64 (min sx (Wn : Int)), .int .i64 (min sy ((Hn : Int) - 1)), .string ti, .slice (some ⟨g, o0, none⟩) n cap, .slice (some ⟨g2, 0, none⟩) lenH cap2]) (by simp [results, Try.results15, tD, go_sem]) rfl ⟨_, cap, _, cap2, rfl, hcap, HAP.out, (set12_mine HM3.out (by omega) _ _ _ _ _ _ _ _ _ _ _ _).mono (by omega), (set12_mine HN3.out (by omega) _ _ _ _ _ _ _ _ _ _ _ _).mono (by omega), set12_below HB3.out (by omega) _ _ _ _ _ _ _ _ _ _ _ _⟩
end Go.Proofs.Ytfdodbkopbmjeaa
