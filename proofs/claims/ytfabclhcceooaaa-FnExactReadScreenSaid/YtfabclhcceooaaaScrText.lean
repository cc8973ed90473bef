/-
  Contract of screenText of the given program: the encoding of a valid screen. Conditions: the screen is valid.
-/
import Derived.Test.YtfabclhcceooaaaRowCells
import Derived.Deep.RegionHeld3
namespace Go.Proofs.Ytfabclhcceooaaa
open Go.ChangeShapes Go.WideShapes Go.ChangeAt Go.RowKit
set_option linter.unusedVariables false
set_option linter.unusedSimpArgs false
set_option maxRecDepth 100000

theorem fields_is (ao : Option Addr) (n c : Nat) (zs : List ByteArray) (L : List UInt8) (w : World) (ha : At w ao (strs zs)) (hl : zs.length = n) (hn : n ≤ maxLen) (hz : ∀ s ∈ zs, s.size ≤ maxLen) (hF : fieldsT zs = (L, 0)) :
    Calls Try.prog 98 #[.slice ao n c] w fun e w' => e = .returned (.string ⟨L.toArray⟩) ∧ Below w.heap.size w w' := by
  have H := Lib.hid (fieldsOf_any ao n c zs w ha hl hn hz)
  rw [hF] at H
  clear hl hF
  go_enter Try.func98, Try.ntmps98
  go_wp2_with (go_at_call 115; refine H.out.mono ?_; rintro e w1 ⟨rfl, hb1⟩)
  go_ret
  exact ⟨rfl, hb1⟩
/-- what the walks of the two encodings need of a valid screen, in numbers -/
structure ScrNat (Wn Hn lenC lenH : Nat) (x y lk tp bt sx sy : Int) (ti : ByteArray) (cs : List (Int × Int)) (hs : List ByteArray) : Prop where
  w1 : Wn ≤ 24
  w2 : 2 ≤ Wn
  h1 : Hn ≤ 10
  fits : ScrFits (Wn : Int) (Hn : Int) x y lk tp bt sx sy ti cs hs
  cl : cs.length = lenC
  hl : hs.length = lenH
  cn : lenC = Wn * Hn
  hn : lenH ≤ 6
theorem row_fit {Wn Hn lenC k : Nat} (h : lenC = Wn * Hn) (hk : k < Hn) (hW : Wn ≤ 24) (hH : Hn ≤ 10) : k * Wn + Wn ≤ lenC ∧ lenC ≤ 240 := by
  have h1 : (k + 1) * Wn ≤ Hn * Wn := Nat.mul_le_mul_right _ hk
  have h2 : (k + 1) * Wn = k * Wn + Wn := Nat.succ_mul _ _
  have h3 : Hn * Wn = Wn * Hn := Nat.mul_comm _ _
  have h4 := Nat.mul_le_mul hW hH
  omega
def scrPre (Wn Hn : Nat) (x y lk tp bt sx sy : Int) (ti : ByteArray) (hs : List ByteArray) : List ByteArray := [⟨(numsB (scrNums Wn Hn x y lk tp bt sx sy)).toArray⟩, ti, ⟨(fieldsL hs).toArray⟩]
theorem scrStrs_pre (Wn Hn : Nat) (x y lk tp bt sx sy : Int) (ti : ByteArray) (cs : List (Int × Int)) (hs : List ByteArray) : scrStrs (Wn : Int) (Hn : Int) x y lk tp bt sx sy ti cs hs = scrPre Wn Hn x y lk tp bt sx sy ti hs ++ rowsL cs Wn Hn := by simp [scrStrs, scrPre]

set_option maxHeartbeats 8000000 in
theorem screenText_nat (Wn Hn : Nat) (x y lk tp bt sx sy : Int) (ti : ByteArray) (aC : Option Addr) (lenC capC : Nat) (cs : List (Int × Int)) (aH : Option Addr) (lenH capH : Nat) (hs : List ByteArray) (L : List UInt8) (w : World) (hc : At w aC (cellsV cs)) (hh : At w aH (strs hs)) (hcc : lenC ≤ capC) (hN : ScrNat Wn Hn lenC lenH x y lk tp bt sx sy ti cs hs) (hL : scrL (Wn : Int) (Hn : Int) x y lk tp bt sx sy ti cs hs = L) :
    Calls Try.prog 71 #[.agg #[.int .i64 Wn, .int .i64 Hn, .int .i64 x, .int .i64 y, .int .i64 lk, .int .i64 tp, .int .i64 bt, .int .i64 sx, .int .i64 sy, .string ti, .slice aC lenC capC, .slice aH lenH capH]] w fun e w' => e = .returned (.string ⟨L.toArray⟩) ∧ Below w.heap.size w w' := by
  obtain ⟨i0, hi, iz0, iz1, iz2⟩ := info_parts Try.info_istr
  have HOK := Lib.hid (scrNums_ok _ _ _ _ _ _ _ _ _ _ hN.fits)
  have HFT := Lib.hid (scr_fieldsT _ _ _ _ _ _ _ _ _ _ hN.fits)
  rw [scrStrs_pre, hL] at HFT
  have HSM := Lib.hid (scrStrs_small _ _ _ _ _ _ _ _ _ _ hN.fits)
  rw [scrStrs_pre] at HSM
  have HHT := Lib.hid (hist_fieldsT (hN.hl ▸ hN.hn) hN.fits.hz)
  have HHZ : Hid (∀ s ∈ hs, s.size ≤ maxLen) := fun s hs' => Nat.le_trans (hN.fits.hz s hs') (by unfold maxLen; omega)
  have HCZ := Lib.hid hN.fits.cz
  have HCL := Lib.hid hN.cl
  have HHL := Lib.hid hN.hl
  have HRF := Lib.hid (fun k (hk : k < Hn) => row_fit hN.cn hk hN.w1 hN.h1)
  have w1' := hN.w1
  have w2' := hN.w2
  have h1' := hN.h1
  have h2' := hN.hn
  have HLRow : Hid (∀ k, k < Hn → (rowC cs Wn k).length = Wn) := fun k hk => length_rowC (H := Hn) (by rw [hN.cl, hN.cn]) hk
  clear hN hL
  obtain ⟨pre, hpre⟩ : ∃ p, scrPre Wn Hn x y lk tp bt sx sy ti hs = p := ⟨_, rfl⟩
  have HPL : Hid (pre.length = 3) := by show _ = _; rw [← hpre]; rfl
  have HPE : Hid (strs pre = [.string ⟨(numsB (scrNums Wn Hn x y lk tp bt sx sy)).toArray⟩, .string ti, .string ⟨(fieldsL hs).toArray⟩]) := by show _ = _; rw [← hpre]; rfl
  rw [hpre] at HFT HSM
  clear hpre
  obtain ⟨NB, hNB⟩ : ∃ b : ByteArray, b = ⟨(numsB (scrNums Wn Hn x y lk tp bt sx sy)).toArray⟩ := ⟨_, rfl⟩
  obtain ⟨HB, hHB⟩ : ∃ b : ByteArray, b = ⟨(fieldsL hs).toArray⟩ := ⟨_, rfl⟩
  rw [← hNB, ← hHB] at HPE
  have HNB := Lib.hid hNB
  have HHB := Lib.hid hHB
  clear hNB hHB
  have H0 : Hid (Below w.heap.size w (w.alloc (.cells #[.int .i64 (Wn : Int), .int .i64 (Hn : Int), .int .i64 x, .int .i64 y, .int .i64 lk, .int .i64 tp, .int .i64 bt, .int .i64 sx, .int .i64 sy, .string ti, .slice aC lenC capC, .slice aH lenH capH] 42))) := (Below.refl _ _).alloc (Nat.le_refl _) _
  go_enter Try.func71, Try.ntmps71
  go_wp2
  have X0 := box_new w (.cells #[.int .i64 (Wn : Int), .int .i64 (Hn : Int), .int .i64 x, .int .i64 y, .int .i64 lk, .int .i64 tp, .int .i64 bt, .int .i64 sx, .int .i64 sy, .string ti, .slice aC lenC capC, .slice aH lenH capH] 42)
  have x0 := box_cells X0
  have HA := Lib.hid (hc.below H0.out (Nat.le_refl _))
  have HH := Lib.hid (hh.below H0.out (Nat.le_refl _))
  clear hc hh
  generalize hW0 : w.alloc (.cells #[.int .i64 (Wn : Int), .int .i64 (Hn : Int), .int .i64 x, .int .i64 y, .int .i64 lk, .int .i64 tp, .int .i64 bt, .int .i64 sx, .int .i64 sy, .string ti, .slice aC lenC capC, .slice aH lenH capH] 42) = W0 at *
  have hz0 : w.heap.size < W0.heap.size := by rw [← hW0]; simp
  clear hW0
  have HX0 := Lib.hid X0
  clear X0
  generalize hb : w.heap.size = b0 at *
  go_region_held3 (fun w' => ∀ i, w'.cell? ⟨b0, i, none⟩ = (#[.int .i64 (Wn : Int), .int .i64 (Hn : Int), .int .i64 x, .int .i64 y, .int .i64 lk, .int .i64 tp, .int .i64 bt, .int .i64 sx, .int .i64 sy, .string ti, .slice aC lenC capC, .slice aH lenH capH] : Array Value)[i]?) (first | exact x0 | exact x1 | exact x2 | exact cells_alloc x0 hz0 _ | exact cells_alloc x1 (by omega) _ | exact cells_alloc x2 (by omega) _ | fail)
    (first
    | (go_at_call 97; refine (numbersOf_any _ 9 9 (scrNums Wn Hn x y lk tp bt sx sy) _ ?_ rfl (by decide) HOK.out).mono ?_; (first | exact (at_new_drew _ _ _ _) | exact (at_new _ _ _ _)); rw [← HNB.out]; rintro e w1 ⟨rfl, hb1⟩; have hz1 : W0.heap.size ≤ w1.heap.size := (by have := hb1.size; simp at this; omega); have x1 := cells_below (by assumption) hb1 (by simp; omega); have B1 : Below W0.heap.size W0 w1 := (((Below.refl _ _).alloc (Nat.le_refl _) _).drew).trans (hb1.mono (by simp)); have HH1 := HH.out.below B1 (Nat.le_refl _))
    | (go_at_call 98; refine (fields_is aH lenH capH hs (fieldsL hs) _ HH1 HHL.out (by unfold maxLen; omega) HHZ.out HHT.out).mono ?_; rw [← HHB.out]; rintro e w2 ⟨rfl, hb2⟩; have hz2 : w1.heap.size ≤ w2.heap.size := hb2.size; have x2 := cells_below x1 hb2 (by omega); have B2 : Below W0.heap.size W0 w2 := B1.trans (hb2.mono (by omega)))
    | fail)
  rename_i hheld
  clear hheld x0 x1 HH1 HH
  have hown : (w2.alloc (.cells #[.string NB, .string ti, .string HB] 9)).ownsRow W0.heap.size 9 1 (.slice (some ⟨w2.heap.size, 0, none⟩) 3 3) 3 (strs (pre ++ rowsL cs Wn 0)) := by
    have e : strs (pre ++ rowsL cs Wn 0) = [.string NB, .string ti, .string HB] := by
      rw [show rowsL cs Wn 0 = [] from rfl, List.append_nil, HPE.out]
    rw [e]
    exact ⟨rfl, .inr ⟨w2.heap.size, 3, _, rfl, by omega, heap_alloc_new w2 _, Nat.le_refl _, by decide, rfl, rfl⟩⟩
  have B3 : Below W0.heap.size W0 (w2.alloc (.cells #[.string NB, .string ti, .string HB] 9)) := B2.alloc B2.size _
  have x3 := cells_alloc x2 (by omega) (.cells #[.string NB, .string ti, .string HB] 9)
  generalize hW3 : w2.alloc (.cells #[.string NB, .string ti, .string HB] 9) = W3 at *
  clear hW3 x2 hb1 hb2 B1 B2
  generalize w2.heap.size = g0 at *
  clear hz1 hz2
  go_wp2
  go_loopw [3, 33] (fun v i wr => ∃ k : Nat, k ≤ Hn ∧ i = .int .i64 k ∧ ∃ (g m cap : Nat), v = .slice (some ⟨g, 0, none⟩) m cap ∧ Hid (m = 3 + k) ∧ m ≤ 13 ∧ wr.ownsRow W0.heap.size 9 1 (.slice (some ⟨g, 0, none⟩) m cap) m (strs (pre ++ rowsL cs Wn k)) ∧ Below W0.heap.size W0 wr) (fun _ i _ => Hn - (intOf i).toNat)
  case atStart => exact ⟨0, Nat.zero_le _, rfl, _, 3, _, rfl, rfl, by decide, hown, B3⟩
  case round =>
    obtain ⟨k, hk, rfl, g, m, cap, rfl, hm, hm13, hown1, hb1⟩ := hrel
    clear hown B3 x3
    have x4 := box_cells (box_below HX0.out hb1 (by omega))
    by_cases hkt : k < Hn
    · obtain ⟨hf1, hf2⟩ := HRF.out k hkt
      obtain ⟨p, hp⟩ : ∃ p, k * Wn = p := ⟨_, rfl⟩
      obtain ⟨p2, hp2⟩ : ∃ p, (k + 1) * Wn = p := ⟨_, rfl⟩
      have hpp : p2 = p + Wn := by rw [← hp, ← hp2, Nat.succ_mul]
      have m1 : (k : Int) * (Wn : Int) = (p : Int) := by rw [← hp]; simp
      have m2 : ((k : Int) + 1) * (Wn : Int) = (p2 : Int) := by rw [← hp2]; simp
      rw [hp] at hf1
      have hp240 : p2 ≤ 240 := by omega
      have hne : ¬ capC = p := by omega
      have hne2 : ¬ (capC : Int) = (p : Int) := by omega
      obtain ⟨b, off, rfl, _⟩ := HA.out.get (by intro e; have := congrArg List.length e; rw [length_cellsV, HCL.out] at this; simp at this; omega)
      have HSUB : Hid (At wr (some ⟨b, off + p * 2, none⟩) (cellsV (rowC cs Wn k))) := by
        have := at_sub (HA.out.below hb1 (Nat.le_refl _)) p Wn
        show At _ _ _
        rw [rowC, hp]; exact this
      have HLR := Lib.hid (HLRow.out k hkt)
      have HCZ2 : Hid (∀ c ∈ rowC cs Wn k, cellB c = true) := fun c hc => HCZ.out c (List.mem_of_mem_drop (List.mem_of_mem_take hc))
      have HN : Hid (strs (pre ++ rowsL cs Wn (k + 1)) = strs (pre ++ rowsL cs Wn k) ++ [.string ⟨(cellsL (rowC cs Wn k)).toArray⟩]) := by
        show _ = _
        rw [rowsL_snoc, ← List.append_assoc]; simp [strs]
      obtain ⟨RB, hRB⟩ : ∃ b : ByteArray, (⟨(cellsL (rowC cs Wn k)).toArray⟩ : ByteArray) = b := ⟨_, rfl⟩
      rw [hRB] at HN
      have HCT := Lib.hid (cellsText_any (some ⟨b, off + p * 2, none⟩) Wn (capC - p) (rowC cs Wn k) wr HSUB.out HLR.out (by omega) HCZ2.out)
      rw [hRB] at HCT
      have i1 : (0 : Int) ≤ (p : Int) := by omega
      have i2 : (p : Int) ≤ (p2 : Int) := by omega
      have i3 : (p2 : Int) ≤ (capC : Int) := by omega
      have i4 : p2 - p = Wn := by omega
      have i5 : (k : Int) < (Hn : Int) := by omega
      have hz1 := hb1.size
      clear hRB hp hp2 hpp HA HRF HSUB HLR HCZ2 HLRow
      go_wp2_with fail
      refine HCT.out.mono ?_
      rintro e w4 ⟨rfl, hb4⟩
      have B4 : Below W0.heap.size W0 w4 := hb1.trans (hb4.mono (by omega))
      have hown4 := hown1.kept (grownBy_of_below none hb4) (Or.inr (by simp [Value.ownBlock]))
      clear HCT hown1 hb1 x4
      go_wp2_with (at_builtin; refine wpList_append_lies _ rfl _ _ 35 rfl W0.heap.size 9 i0 (.string { data := #[] }) 1 16 Try.underlying35 hi iz0 iz1 iz2 rfl (by decide) _ _ _ rfl (hown4.alloc _) ⟨w4.heap.size, 0, none⟩ 1 1 [.string RB] rfl rfl (fun j u hu => World.news_of_block (heap_alloc_new _ _) j u hu) (by intro u hu; simp at hu; subst hu; rfl) (by decide) (by unfold maxLen; omega) (by omega) (by have := B4.size; simp; omega) _ rfl ?_; intro g5 cap5 w5 hown5 hgrow5 hlie5 hlt5)
      have B5 : Below W0.heap.size W0 w5 := (B4.alloc B4.size _).grown hgrow5 (by have := B4.size; simp; omega) (fun j hj => (hown4.lt j hj).1)
      clear hown4 hgrow5 hlie5 hlt5
      go_roundw
      case rel => exact ⟨k + 1, by omega, by go_num, g5, _, cap5, rfl, by show _ = _; rw [hm.out]; omega, by have := hm.out; omega, by rw [HN.out]; exact hown5, B5⟩
      case measure => simp [intOf]; omega
    · have hkk : Hid (k = Hn) := by show k = Hn; omega
      have i5 : (Hn : Int) ≤ (k : Int) := by omega
      rw [hkk.out] at hown1
      have HAT := Lib.hid (own_at hown1).at
      have HLN : Hid ((pre ++ rowsL cs Wn Hn).length = m) := by show _ = _; rw [List.length_append, HPL.out, length_rowsL, hm.out, hkk.out]
      have HBE := Lib.hid (H0.out.trans (hb1.mono (Nat.le_of_lt hz0)))
      have hbz := hb1.size
      clear hown1
      go_wp2_with fail
      refine (fields_is _ m _ (pre ++ rowsL cs Wn Hn) L _ HAT.out HLN.out (by unfold maxLen; omega) (fun s hs' => Nat.le_trans (HSM.out s hs') (by unfold maxLen; omega)) HFT.out).mono ?_
      rintro e w6 ⟨rfl, hb6⟩
      have B6 : Below b0 w w6 := HBE.out.trans (hb6.mono (by omega))
      clear x4
      go_wp2
      go_ret
      exact ⟨rfl, by rw [hb]; exact B6⟩
end Go.Proofs.Ytfabclhcceooaaa
