/-
  Contracts of RowText of the given program and of its reference. Conditions: bounds on lengths.
-/
import Derived.Test.YtfpbboldfilhlaaDoorRowT
namespace Go.Proofs.YtfpbboldfilhlaaDoor
open Go.ChangeShapes Go.WideShapes Go.ChangeAt Go.RowKit
set_option linter.unusedVariables false
set_option linter.unusedSimpArgs false
set_option maxRecDepth 100000
attribute [local irreducible] wpList
def rowTR (wd ht x y lk tp bt sx sy : Int) (ti : ByteArray) (cs : List (Int × Int)) (hs : List ByteArray) (yy : Int) : ByteArray × Int :=
  if scrB wd ht x y lk tp bt sx sy ti cs hs = true then (if inR yy 0 (ht - 1) = true then (⟨(rowTx cs wd.toNat yy.toNat).toArray⟩, 0) else (⟨#[]⟩, 4)) else (⟨#[]⟩, 1)
set_option maxHeartbeats 4000000 in
theorem implRowText_any (wd ht x y lk tp bt sx sy : Int) (ti : ByteArray) (aC : Option Addr) (lenC capC : Nat) (cs : List (Int × Int)) (aH : Option Addr) (lenH capH : Nat) (hs : List ByteArray) (yy : Int) (T : ByteArray) (cd : Int) (w : World) (hti : ti.size ≤ maxLen) (hc : At w aC (cellsV cs)) (hlc : cs.length = lenC) (hnc : lenC ≤ maxLen) (hh : At w aH (strs hs)) (hlh : hs.length = lenH) (hnh : lenH ≤ maxLen) (hz : ∀ s ∈ hs, s.size ≤ maxLen) (hcc : lenC ≤ capC) (hR : rowTR wd ht x y lk tp bt sx sy ti cs hs yy = (T, cd)) :
    Calls Tryd.prog 8 #[.agg #[.int .i64 wd, .int .i64 ht, .int .i64 x, .int .i64 y, .int .i64 lk, .int .i64 tp, .int .i64 bt, .int .i64 sx, .int .i64 sy, .string ti, .slice aC lenC capC, .slice aH lenH capH], .int .i64 yy] w fun e w' => e = .returned (.tuple #[.string T, .int .i64 cd]) ∧ Below w.heap.size w w' := by
  have H0 := Lib.hid ((Below.refl w.heap.size w).alloc (Nat.le_refl _) (.cells #[.int .i64 wd, .int .i64 ht, .int .i64 x, .int .i64 y, .int .i64 lk, .int .i64 tp, .int .i64 bt, .int .i64 sx, .int .i64 sy, .string ti, .slice aC lenC capC, .slice aH lenH capH] 27))
  have HC := Lib.hid (hc.below H0.out (Nat.le_refl _))
  have HH := Lib.hid (hh.below H0.out (Nat.le_refl _))
  have HL := Lib.hid hlc
  have HLH := Lib.hid hlh
  have HN := Lib.hid hnc
  have HNH := Lib.hid hnh
  have HZ := Lib.hid hz
  have HTI := Lib.hid hti
  clear hc hh hlc hlh hnc hnh hz hti
  cases hS : scrB wd ht x y lk tp bt sx sy ti cs hs
  · rw [rowTR, hS, if_neg (by decide)] at hR
    obtain ⟨rfl, rfl⟩ := Prod.mk.inj hR
    have HS := Lib.hid hS
    clear hS hR
    go_enter Tryd.func8, Tryd.ntmps8
    go_wp2_with fail
    refine (isScr_is wd ht x y lk tp bt sx sy ti aC lenC capC cs aH lenH capH hs _ _ HTI.out HC.out HL.out HN.out HH.out HLH.out HNH.out HZ.out HS.out).mono ?_
    rintro e w1 ⟨rfl, hb1⟩
    have hz1 : w.heap.size + 1 ≤ w1.heap.size := by have := hb1.size; simpa using this
    have X1 := box_below (box_new w (.cells #[.int .i64 wd, .int .i64 ht, .int .i64 x, .int .i64 y, .int .i64 lk, .int .i64 tp, .int .i64 bt, .int .i64 sx, .int .i64 sy, .string ti, .slice aC lenC capC, .slice aH lenH capH] 27)) hb1 (by simp)
    have x1 := box_cells X1
    have B1 : Below w.heap.size w w1 := H0.out.trans (hb1.mono (by simp))
    have HC1 := Lib.hid (HC.out.below hb1 (Nat.le_refl _))
    clear X1 hb1 H0
    clear HC1
    go_wp2
    go_ret2
    exact ⟨rfl, B1⟩
  · have hF := scrB_fits wd ht x y lk tp bt sx sy ti hS
    have HS := Lib.hid hS
    rw [rowTR, hS, if_pos rfl] at hR
    have f1 := hF.h0
    have f2 := hF.h1
    have f3 := hF.w0
    have f4 := hF.w1
    have HCZ := Lib.hid hF.cz
    have HCL := Lib.hid hF.cl
    clear hS hF
    cases hy : inR yy 0 (ht - 1)
    · rw [hy, if_neg (by decide)] at hR
      obtain ⟨rfl, rfl⟩ := Prod.mk.inj hR
      have HY := Lib.hid hy
      clear hy hR
      go_enter Tryd.func8, Tryd.ntmps8
      go_wp2_with fail
      refine (isScr_is wd ht x y lk tp bt sx sy ti aC lenC capC cs aH lenH capH hs _ _ HTI.out HC.out HL.out HN.out HH.out HLH.out HNH.out HZ.out HS.out).mono ?_
      rintro e w1 ⟨rfl, hb1⟩
      have hz1 : w.heap.size + 1 ≤ w1.heap.size := by have := hb1.size; simpa using this
      have X1 := box_below (box_new w (.cells #[.int .i64 wd, .int .i64 ht, .int .i64 x, .int .i64 y, .int .i64 lk, .int .i64 tp, .int .i64 bt, .int .i64 sx, .int .i64 sy, .string ti, .slice aC lenC capC, .slice aH lenH capH] 27)) hb1 (by simp)
      have x1 := box_cells X1
      have B1 : Below w.heap.size w w1 := H0.out.trans (hb1.mono (by simp))
      have HC1 := Lib.hid (HC.out.below hb1 (Nat.le_refl _))
      clear X1 hb1 H0
      go_wp2_with fail
      refine (with_val yy 0 (ht - 1) _ _ HY.out).mono ?_
      rintro e w' ⟨rfl, rfl⟩
      clear HC1
      go_wp2
      go_ret2
      exact ⟨rfl, B1⟩
    · rw [hy, if_pos rfl] at hR
      obtain ⟨rfl, rfl⟩ := Prod.mk.inj hR
      obtain ⟨g1, g2⟩ := in_facts hy
      have HY := Lib.hid hy
      clear hy hR
      obtain ⟨Wn, rfl⟩ : ∃ n : Nat, wd = (n : Int) := ⟨wd.toNat, by omega⟩
      obtain ⟨Hn, rfl⟩ : ∃ n : Nat, ht = (n : Int) := ⟨ht.toNat, by omega⟩
      obtain ⟨yn, rfl⟩ : ∃ n : Nat, yy = (n : Int) := ⟨yy.toNat, by omega⟩
      simp only [Int.toNat_natCast]
      have hcl : lenC = Wn * Hn := by have := HCL.out; have h2 := HL.out; rw [h2] at this; exact_mod_cast this
      obtain ⟨p, hp⟩ : ∃ p, yn * Wn = p := ⟨_, rfl⟩
      obtain ⟨p2, hp2⟩ : ∃ p, (yn + 1) * Wn = p := ⟨_, rfl⟩
      have hpp : p2 = p + Wn := by rw [← hp, ← hp2, Nat.succ_mul]
      have hpl : p2 ≤ lenC := by rw [hcl, ← hp2, Nat.mul_comm Wn Hn]; exact Nat.mul_le_mul_right _ (by omega)
      have hn2 : lenC ≤ 1048576 := by
        rw [hcl]
        have := Nat.mul_le_mul (show Wn ≤ 24 by omega) (show Hn ≤ 10 by omega)
        omega
      have hp240 : p2 ≤ 240 := by
        have := Nat.mul_le_mul (show Wn ≤ 24 by omega) (show Hn ≤ 10 by omega)
        omega
      have m1 : (yn : Int) * (Wn : Int) = (p : Int) := by rw [← hp]; simp
      have m2 : ((yn : Int) + 1) * (Wn : Int) = (p2 : Int) := by rw [← hp2]; simp
      have HP : Hid (yn * Wn + Wn ≤ lenC) := by show _ ≤ _; rw [hp]; omega
      have HPY := Lib.hid hp
      clear hp hp2 hcl
      go_enter Tryd.func8, Tryd.ntmps8
      go_wp2_with fail
      refine (isScr_is (Wn : Int) (Hn : Int) x y lk tp bt sx sy ti aC lenC capC cs aH lenH capH hs _ _ HTI.out HC.out HL.out HN.out HH.out HLH.out HNH.out HZ.out HS.out).mono ?_
      rintro e w1 ⟨rfl, hb1⟩
      have hz1 : w.heap.size + 1 ≤ w1.heap.size := by have := hb1.size; simpa using this
      have X1 := box_below (box_new w (.cells #[.int .i64 (Wn : Int), .int .i64 (Hn : Int), .int .i64 x, .int .i64 y, .int .i64 lk, .int .i64 tp, .int .i64 bt, .int .i64 sx, .int .i64 sy, .string ti, .slice aC lenC capC, .slice aH lenH capH] 27)) hb1 (by simp)
      have x1 := box_cells X1
      have B1 : Below w.heap.size w w1 := H0.out.trans (hb1.mono (by simp))
      have HC1 := Lib.hid (HC.out.below hb1 (Nat.le_refl _))
      clear hb1 H0
      go_wp2_with fail
      refine (with_val (yn : Int) 0 ((Hn : Int) - 1) _ _ HY.out).mono ?_
      rintro e w' ⟨rfl, rfl⟩
      have HX1 := Lib.hid X1
      clear m1 m2 x1
      go_wp2_with fail
      refine (rowText_any w.heap.size (Wn : Int) (Hn : Int) x y lk tp bt sx sy ti aC lenC capC cs aH lenH capH Wn yn _ HX1.out HC1.out HL.out hn2 hcc HCZ.out rfl (by omega) (by omega) (by omega) (by have := HP.out; omega)).mono ?_
      rintro e w2 ⟨rfl, hb2⟩
      have B2 : Below w.heap.size w w2 := B1.trans (hb2.mono (by omega))
      go_wp2
      go_ret2
      exact ⟨rfl, B2⟩
end Go.Proofs.YtfpbboldfilhlaaDoor
