/-
  Contracts of ScreenBytes of the given program and of its reference. Conditions: bounds on lengths.
-/
import Derived.Test.YtfabclhcceooaaaScrText2
namespace Go.Proofs.Ytfabclhcceooaaa
open Go.ChangeShapes Go.WideShapes Go.ChangeAt Go.RowKit
set_option linter.unusedVariables false
set_option linter.unusedSimpArgs false
set_option maxRecDepth 100000
attribute [local irreducible] wpList

theorem scr_nat (wd ht x y lk tp bt sx sy : Int) (ti : ByteArray) (Wn Hn : Nat) {lenC lenH : Nat} {cs : List (Int × Int)} {hs : List ByteArray} (h : ScrFits (Wn : Int) (Hn : Int) x y lk tp bt sx sy ti cs hs) (hlc : cs.length = lenC) (hlh : hs.length = lenH) : ScrNat Wn Hn lenC lenH x y lk tp bt sx sy ti cs hs := by
  have h1 := h.w0
  have h2 := h.w1
  have h3 := h.h0
  have h4 := h.h1
  refine ⟨by omega, by omega, by omega, h, hlc, hlh, ?_, hlh ▸ h.hs1⟩
  have := h.cl
  rw [hlc] at this
  exact_mod_cast this
theorem screenText_is (wd ht x y lk tp bt sx sy : Int) (ti : ByteArray) (aC : Option Addr) (lenC capC : Nat) (cs : List (Int × Int)) (aH : Option Addr) (lenH capH : Nat) (hs : List ByteArray) (L : List UInt8) (w : World) (hc : At w aC (cellsV cs)) (hh : At w aH (strs hs)) (hcc : lenC ≤ capC) (hlc : cs.length = lenC) (hlh : hs.length = lenH) (hF : ScrFits wd ht x y lk tp bt sx sy ti cs hs) (hL : scrL wd ht x y lk tp bt sx sy ti cs hs = L) :
    Calls Try.prog 71 #[.agg #[.int .i64 wd, .int .i64 ht, .int .i64 x, .int .i64 y, .int .i64 lk, .int .i64 tp, .int .i64 bt, .int .i64 sx, .int .i64 sy, .string ti, .slice aC lenC capC, .slice aH lenH capH]] w fun e w' => e = .returned (.string ⟨L.toArray⟩) ∧ Below w.heap.size w w' := by
  obtain ⟨Wn, rfl⟩ : ∃ n : Nat, wd = (n : Int) := ⟨wd.toNat, by have := hF.w0; omega⟩
  obtain ⟨Hn, rfl⟩ : ∃ n : Nat, ht = (n : Int) := ⟨ht.toNat, by have := hF.h0; omega⟩
  exact screenText_nat Wn Hn x y lk tp bt sx sy ti aC lenC capC cs aH lenH capH hs L w hc hh hcc (scr_nat 0 0 x y lk tp bt sx sy ti Wn Hn hF hlc hlh) hL
theorem l04Bytes_is (wd ht x y lk tp bt sx sy : Int) (ti : ByteArray) (aC : Option Addr) (lenC capC : Nat) (cs : List (Int × Int)) (aH : Option Addr) (lenH capH : Nat) (hs : List ByteArray) (L : List UInt8) (w : World) (hc : At w aC (cellsV cs)) (hh : At w aH (strs hs)) (hlc : cs.length = lenC) (hlh : hs.length = lenH) (hF : ScrFits wd ht x y lk tp bt sx sy ti cs hs) (hL : scrL wd ht x y lk tp bt sx sy ti cs hs = L) :
    Calls Try.prog 70 #[.agg #[.int .i64 wd, .int .i64 ht, .int .i64 x, .int .i64 y, .int .i64 lk, .int .i64 tp, .int .i64 bt, .int .i64 sx, .int .i64 sy, .string ti, .slice aC lenC capC, .slice aH lenH capH]] w fun e w' => e = .returned (.string ⟨L.toArray⟩) ∧ Below w.heap.size w w' := by
  obtain ⟨Wn, rfl⟩ : ∃ n : Nat, wd = (n : Int) := ⟨wd.toNat, by have := hF.w0; omega⟩
  obtain ⟨Hn, rfl⟩ : ∃ n : Nat, ht = (n : Int) := ⟨ht.toNat, by have := hF.h0; omega⟩
  exact l04Bytes_nat Wn Hn x y lk tp bt sx sy ti aC lenC capC cs aH lenH capH hs L w hc hh (scr_nat 0 0 x y lk tp bt sx sy ti Wn Hn hF hlc hlh) hL
def scrBR (wd ht x y lk tp bt sx sy : Int) (ti : ByteArray) (cs : List (Int × Int)) (hs : List ByteArray) : List UInt8 × Int := if scrB wd ht x y lk tp bt sx sy ti cs hs = true then (scrL wd ht x y lk tp bt sx sy ti cs hs, 0) else ([], 1)
theorem scrBR_le (wd ht x y lk tp bt sx sy : Int) (ti : ByteArray) (cs : List (Int × Int)) (hs : List ByteArray) : (scrBR wd ht x y lk tp bt sx sy ti cs hs).1.length ≤ 8000 := by
  unfold scrBR
  split
  · rename_i h; exact scrL_len wd ht x y lk tp bt sx sy ti (scrB_fits wd ht x y lk tp bt sx sy ti h)
  · simp

set_option maxHeartbeats 4000000 in
theorem specScreenBytes_any (wd ht x y lk tp bt sx sy : Int) (ti : ByteArray) (aC : Option Addr) (lenC capC : Nat) (cs : List (Int × Int)) (aH : Option Addr) (lenH capH : Nat) (hs : List ByteArray) (L : List UInt8) (cd : Int) (m : Nat) (w : World) (hti : ti.size ≤ maxLen) (hc : At w aC (cellsV cs)) (hlc : cs.length = lenC) (hnc : lenC ≤ maxLen) (hh : At w aH (strs hs)) (hlh : hs.length = lenH) (hnh : lenH ≤ maxLen) (hz : ∀ s ∈ hs, s.size ≤ maxLen) (hcc : lenC ≤ capC) (hR : scrBR wd ht x y lk tp bt sx sy ti cs hs = (L, cd)) (hm : L.length = m) :
    Calls Try.prog 34 #[.agg #[.int .i64 wd, .int .i64 ht, .int .i64 x, .int .i64 y, .int .i64 lk, .int .i64 tp, .int .i64 bt, .int .i64 sx, .int .i64 sy, .string ti, .slice aC lenC capC, .slice aH lenH capH]] w fun e w' => ∃ ao cap, e = .returned (.tuple #[.slice ao m cap, .int .i64 cd]) ∧ Mine w.heap.size w' ao (u8s L) ∧ Below w.heap.size w w' := by
  have H0 := Lib.hid ((Below.refl w.heap.size w).alloc (Nat.le_refl _) (.cells #[.int .i64 wd, .int .i64 ht, .int .i64 x, .int .i64 y, .int .i64 lk, .int .i64 tp, .int .i64 bt, .int .i64 sx, .int .i64 sy, .string ti, .slice aC lenC capC, .slice aH lenH capH] 42))
  have HC := Lib.hid (hc.below H0.out (Nat.le_refl _))
  have HH := Lib.hid (hh.below H0.out (Nat.le_refl _))
  have HL := Lib.hid hlc
  have HLH := Lib.hid hlh
  have HN := Lib.hid hnc
  have HNH := Lib.hid hnh
  have HZ := Lib.hid hz
  have HTI := Lib.hid hti
  have HCC := Lib.hid hcc
  have HM := Lib.hid hm
  clear hc hh hlc hlh hnc hnh hz hti hcc hm
  cases hS : scrB wd ht x y lk tp bt sx sy ti cs hs
  · rw [scrBR, hS, if_neg (by decide)] at hR
    obtain ⟨rfl, rfl⟩ := Prod.mk.inj hR
    have hm0 : m = 0 := HM.out.symm
    subst hm0
    have HS := Lib.hid hS
    clear hS hR
    go_enter Try.func34, Try.ntmps34
    go_wp2_with fail
    refine (specScr_is wd ht x y lk tp bt sx sy ti aC lenC capC cs aH lenH capH hs _ _ HTI.out HC.out HL.out HN.out HH.out HLH.out HNH.out HZ.out HS.out).mono ?_
    rintro e w1 ⟨rfl, hb1⟩
    have hz1 : w.heap.size + 1 ≤ w1.heap.size := by have := hb1.size; simpa using this
    have X1 := box_below (box_new w (.cells #[.int .i64 wd, .int .i64 ht, .int .i64 x, .int .i64 y, .int .i64 lk, .int .i64 tp, .int .i64 bt, .int .i64 sx, .int .i64 sy, .string ti, .slice aC lenC capC, .slice aH lenH capH] 42)) hb1 (by simp)
    have x1 := box_cells X1
    have B1 : Below w.heap.size w w1 := H0.out.trans (hb1.mono (by simp))
    have HC1 := Lib.hid (HC.out.below hb1 (Nat.le_refl _))
    have HH1 := Lib.hid (HH.out.below hb1 (Nat.le_refl _))
    clear X1 hb1 H0
    clear HC1 HH1
    go_wp2
    go_ret2
    exact ⟨_, _, rfl, .inl rfl, B1.alloc B1.size _⟩
  · have HF := Lib.hid (scrB_fits wd ht x y lk tp bt sx sy ti hS)
    have HS := Lib.hid hS
    rw [scrBR, hS, if_pos rfl] at hR
    obtain ⟨hL, rfl⟩ := Prod.mk.inj hR
    have HLL := Lib.hid hL
    clear hS hR hL
    obtain ⟨cp, ob, hcv, hat⟩ := bytes_conv (P := Try.prog) 9 58 5 (⟨L.toArray⟩ : ByteArray) m (by show L.toArray.size = _; rw [List.size_toArray]; exact HM.out) Try.underlying9 Try.underlying58 Try.underlying5
    have HCV := Lib.hid hcv
    clear hcv
    go_enter Try.func34, Try.ntmps34
    go_wp2_with fail
    refine (specScr_is wd ht x y lk tp bt sx sy ti aC lenC capC cs aH lenH capH hs _ _ HTI.out HC.out HL.out HN.out HH.out HLH.out HNH.out HZ.out HS.out).mono ?_
    rintro e w1 ⟨rfl, hb1⟩
    have hz1 : w.heap.size + 1 ≤ w1.heap.size := by have := hb1.size; simpa using this
    have X1 := box_below (box_new w (.cells #[.int .i64 wd, .int .i64 ht, .int .i64 x, .int .i64 y, .int .i64 lk, .int .i64 tp, .int .i64 bt, .int .i64 sx, .int .i64 sy, .string ti, .slice aC lenC capC, .slice aH lenH capH] 42)) hb1 (by simp)
    have x1 := box_cells X1
    have B1 : Below w.heap.size w w1 := H0.out.trans (hb1.mono (by simp))
    have HC1 := Lib.hid (HC.out.below hb1 (Nat.le_refl _))
    have HH1 := Lib.hid (HH.out.below hb1 (Nat.le_refl _))
    clear X1 hb1 H0
    go_wp2_with fail
    refine (l04Bytes_is wd ht x y lk tp bt sx sy ti aC lenC capC cs aH lenH capH hs L _ HC1.out HH1.out HL.out HLH.out HF.out HLL.out).mono ?_
    rintro e w2 ⟨rfl, hb2⟩
    have hcv := HCV.out
    have hz2 := hb2.size
    have B2 : Below w.heap.size w w2 := B1.trans (hb2.mono (by omega))
    clear x1
    go_wp2
    go_ret2
    exact ⟨_, _, rfl, hat.out w2 _ B2.size, B2.drew.alloc (by exact B2.size) _⟩

set_option maxHeartbeats 4000000 in
theorem implScreenBytes_any (wd ht x y lk tp bt sx sy : Int) (ti : ByteArray) (aC : Option Addr) (lenC capC : Nat) (cs : List (Int × Int)) (aH : Option Addr) (lenH capH : Nat) (hs : List ByteArray) (L : List UInt8) (cd : Int) (m : Nat) (w : World) (hti : ti.size ≤ maxLen) (hc : At w aC (cellsV cs)) (hlc : cs.length = lenC) (hnc : lenC ≤ maxLen) (hh : At w aH (strs hs)) (hlh : hs.length = lenH) (hnh : lenH ≤ maxLen) (hz : ∀ s ∈ hs, s.size ≤ maxLen) (hcc : lenC ≤ capC) (hR : scrBR wd ht x y lk tp bt sx sy ti cs hs = (L, cd)) (hm : L.length = m) :
    Calls Try.prog 35 #[.agg #[.int .i64 wd, .int .i64 ht, .int .i64 x, .int .i64 y, .int .i64 lk, .int .i64 tp, .int .i64 bt, .int .i64 sx, .int .i64 sy, .string ti, .slice aC lenC capC, .slice aH lenH capH]] w fun e w' => ∃ ao cap, e = .returned (.tuple #[.slice ao m cap, .int .i64 cd]) ∧ Mine w.heap.size w' ao (u8s L) ∧ Below w.heap.size w w' := by
  have H0 := Lib.hid ((Below.refl w.heap.size w).alloc (Nat.le_refl _) (.cells #[.int .i64 wd, .int .i64 ht, .int .i64 x, .int .i64 y, .int .i64 lk, .int .i64 tp, .int .i64 bt, .int .i64 sx, .int .i64 sy, .string ti, .slice aC lenC capC, .slice aH lenH capH] 42))
  have HC := Lib.hid (hc.below H0.out (Nat.le_refl _))
  have HH := Lib.hid (hh.below H0.out (Nat.le_refl _))
  have HL := Lib.hid hlc
  have HLH := Lib.hid hlh
  have HN := Lib.hid hnc
  have HNH := Lib.hid hnh
  have HZ := Lib.hid hz
  have HTI := Lib.hid hti
  have HCC := Lib.hid hcc
  have HM := Lib.hid hm
  clear hc hh hlc hlh hnc hnh hz hti hcc hm
  cases hS : scrB wd ht x y lk tp bt sx sy ti cs hs
  · rw [scrBR, hS, if_neg (by decide)] at hR
    obtain ⟨rfl, rfl⟩ := Prod.mk.inj hR
    have hm0 : m = 0 := HM.out.symm
    subst hm0
    have HS := Lib.hid hS
    clear hS hR
    go_enter Try.func35, Try.ntmps35
    go_wp2_with fail
    refine (isScr_is wd ht x y lk tp bt sx sy ti aC lenC capC cs aH lenH capH hs _ _ HTI.out HC.out HL.out HN.out HH.out HLH.out HNH.out HZ.out HS.out).mono ?_
    rintro e w1 ⟨rfl, hb1⟩
    have hz1 : w.heap.size + 1 ≤ w1.heap.size := by have := hb1.size; simpa using this
    have X1 := box_below (box_new w (.cells #[.int .i64 wd, .int .i64 ht, .int .i64 x, .int .i64 y, .int .i64 lk, .int .i64 tp, .int .i64 bt, .int .i64 sx, .int .i64 sy, .string ti, .slice aC lenC capC, .slice aH lenH capH] 42)) hb1 (by simp)
    have x1 := box_cells X1
    have B1 : Below w.heap.size w w1 := H0.out.trans (hb1.mono (by simp))
    have HC1 := Lib.hid (HC.out.below hb1 (Nat.le_refl _))
    have HH1 := Lib.hid (HH.out.below hb1 (Nat.le_refl _))
    clear X1 hb1 H0
    clear HC1 HH1
    go_wp2
    go_ret2
    exact ⟨none, 0, rfl, .inl rfl, B1⟩
  · have HF := Lib.hid (scrB_fits wd ht x y lk tp bt sx sy ti hS)
    have HS := Lib.hid hS
    rw [scrBR, hS, if_pos rfl] at hR
    obtain ⟨hL, rfl⟩ := Prod.mk.inj hR
    have HLL := Lib.hid hL
    clear hS hR hL
    obtain ⟨cp, ob, hcv, hat⟩ := bytes_conv (P := Try.prog) 9 58 5 (⟨L.toArray⟩ : ByteArray) m (by show L.toArray.size = _; rw [List.size_toArray]; exact HM.out) Try.underlying9 Try.underlying58 Try.underlying5
    have HCV := Lib.hid hcv
    clear hcv
    go_enter Try.func35, Try.ntmps35
    go_wp2_with fail
    refine (isScr_is wd ht x y lk tp bt sx sy ti aC lenC capC cs aH lenH capH hs _ _ HTI.out HC.out HL.out HN.out HH.out HLH.out HNH.out HZ.out HS.out).mono ?_
    rintro e w1 ⟨rfl, hb1⟩
    have hz1 : w.heap.size + 1 ≤ w1.heap.size := by have := hb1.size; simpa using this
    have X1 := box_below (box_new w (.cells #[.int .i64 wd, .int .i64 ht, .int .i64 x, .int .i64 y, .int .i64 lk, .int .i64 tp, .int .i64 bt, .int .i64 sx, .int .i64 sy, .string ti, .slice aC lenC capC, .slice aH lenH capH] 42)) hb1 (by simp)
    have x1 := box_cells X1
    have B1 : Below w.heap.size w w1 := H0.out.trans (hb1.mono (by simp))
    have HC1 := Lib.hid (HC.out.below hb1 (Nat.le_refl _))
    have HH1 := Lib.hid (HH.out.below hb1 (Nat.le_refl _))
    clear X1 hb1 H0
    go_wp2_with fail
    refine (screenText_is wd ht x y lk tp bt sx sy ti aC lenC capC cs aH lenH capH hs L _ HC1.out HH1.out HCC.out HL.out HLH.out HF.out HLL.out).mono ?_
    rintro e w2 ⟨rfl, hb2⟩
    have hcv := HCV.out
    have hz2 := hb2.size
    have B2 : Below w.heap.size w w2 := B1.trans (hb2.mono (by omega))
    clear x1
    go_wp2
    go_ret2
    exact ⟨_, _, rfl, hat.out w2 _ B2.size, B2.drew.alloc (by exact B2.size) _⟩
end Go.Proofs.Ytfabclhcceooaaa
