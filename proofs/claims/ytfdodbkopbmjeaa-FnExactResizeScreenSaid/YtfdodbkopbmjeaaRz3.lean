/-
  Contracts of ResizeScreen of the given program and of its reference. No condition.
-/
import Derived.Test.YtfdodbkopbmjeaaRz
import Derived.Test.YtfdodbkopbmjeaaRz2
namespace Go.Proofs.Ytfdodbkopbmjeaa
open Go.ChangeShapes Go.WideShapes Go.ChangeAt Go.RowKit
set_option linter.unusedVariables false
set_option linter.unusedSimpArgs false
set_option maxRecDepth 100000
attribute [local irreducible] wpList

/-- what ResizeScreen answers -/
def RszIs (wd ht x y lk tp bt sx sy : Int) (ti : ByteArray) (cs : List (Int × Int)) (hs : List ByteArray) (aw ah q1 q2 q3 q4 q5 q7 q8 q9 : Int) (qt : ByteArray) (n : Nat) (rc : List (Int × Int)) (lr : Nat) (rh : List ByteArray) (cd : Int) : Prop :=
  (scrB wd ht x y lk tp bt sx sy ti cs hs = false ∧ q1 = 0 ∧ q2 = 0 ∧ q3 = 0 ∧ q4 = 0 ∧ q5 = 0 ∧ q7 = 0 ∧ q8 = 0 ∧ q9 = 0 ∧ qt = ⟨#[]⟩ ∧ n = 0 ∧ rc = [] ∧ lr = 0 ∧ rh = [] ∧ cd = 1) ∨
  (scrB wd ht x y lk tp bt sx sy ti cs hs = true ∧ sizeB aw ah = false ∧ q1 = 0 ∧ q2 = 0 ∧ q3 = 0 ∧ q4 = 0 ∧ q5 = 0 ∧ q7 = 0 ∧ q8 = 0 ∧ q9 = 0 ∧ qt = ⟨#[]⟩ ∧ n = 0 ∧ rc = [] ∧ lr = 0 ∧ rh = [] ∧ cd = 4) ∨
  (∃ Wo Ho Wn Hn : Nat, wd = (Wo : Int) ∧ ht = (Ho : Int) ∧ aw = (Wn : Int) ∧ ah = (Hn : Int) ∧ scrB (Wo : Int) (Ho : Int) x y lk tp bt sx sy ti cs hs = true ∧ sizeB (Wn : Int) (Hn : Int) = true ∧ q1 = (Wn : Int) ∧ q2 = (Hn : Int) ∧ q3 = min x (Wn : Int) ∧ q4 = min y ((Hn : Int) - 1) ∧ lk = q5 ∧ q7 = (Hn : Int) - 1 ∧ q8 = min sx (Wn : Int) ∧ q9 = min sy ((Hn : Int) - 1) ∧ ti = qt ∧ n = Hn * Wn ∧ rc = rzC cs Wo Wn Hn (min Hn Ho) 0 ∧ lr = hs.length ∧ hs = rh ∧ cd = 0)

theorem length_rzEnd {cs : List (Int × Int)} {Wo Ho Wn Hn : Nat} (h : cs.length = Wo * Ho) : (rzC cs Wo Wn Hn (min Hn Ho) 0).length = Hn * Wn := by
  have e1 : Hn * Wn = min Hn Ho * Wn + (Hn - min Hn Ho) * Wn := by rw [← Nat.add_mul]; congr 1; omega
  rw [rzC, List.length_append, List.length_append, List.length_replicate, List.length_take, length_rzP h _ (by omega)]
  omega

theorem rsz_total (wd ht x y lk tp bt sx sy : Int) (ti : ByteArray) (cs : List (Int × Int)) (hs : List ByteArray) (aw ah : Int) : ∃ q1 q2 q3 q4 q5 q7 q8 q9 qt n rc lr rh cd, RszIs wd ht x y lk tp bt sx sy ti cs hs aw ah q1 q2 q3 q4 q5 q7 q8 q9 qt n rc lr rh cd ∧ rc.length = n ∧ n ≤ 240 ∧ rh.length = lr ∧ lr ≤ 6 := by
  cases hS : scrB wd ht x y lk tp bt sx sy ti cs hs
  · exact ⟨_, _, _, _, _, _, _, _, _, _, _, _, _, _, .inl ⟨hS, rfl, rfl, rfl, rfl, rfl, rfl, rfl, rfl, rfl, rfl, rfl, rfl, rfl, rfl⟩, rfl, by omega, rfl, by omega⟩
  cases hZ : sizeB aw ah
  · exact ⟨_, _, _, _, _, _, _, _, _, _, _, _, _, _, .inr (.inl ⟨hS, hZ, rfl, rfl, rfl, rfl, rfl, rfl, rfl, rfl, rfl, rfl, rfl, rfl, rfl, rfl⟩), rfl, by omega, rfl, by omega⟩
  have hF := scrB_fits wd ht x y lk tp bt sx sy ti hS
  obtain ⟨b1, b2, b3, b4, b5, b6⟩ := size_facts hZ
  have := hF.w0
  have := hF.h0
  obtain ⟨Wo, rfl⟩ := Int.eq_ofNat_of_zero_le (show 0 ≤ wd by omega)
  obtain ⟨Ho, rfl⟩ := Int.eq_ofNat_of_zero_le (show 0 ≤ ht by omega)
  obtain ⟨Wn, rfl⟩ := Int.eq_ofNat_of_zero_le (show 0 ≤ aw by omega)
  obtain ⟨Hn, rfl⟩ := Int.eq_ofNat_of_zero_le (show 0 ≤ ah by omega)
  have hcl : cs.length = Wo * Ho := by have := hF.cl; rw [← Int.natCast_mul] at this; omega
  have hn : Hn * Wn ≤ 240 := by have := Nat.mul_le_mul (show Hn ≤ 10 by omega) (show Wn ≤ 24 by omega); omega
  exact ⟨_, _, _, _, _, _, _, _, _, _, _, _, _, _, .inr (.inr ⟨Wo, Ho, Wn, Hn, rfl, rfl, rfl, rfl, hS, hZ, rfl, rfl, rfl, rfl, rfl, rfl, rfl, rfl, rfl, rfl, rfl, rfl, rfl, rfl⟩), length_rzEnd hcl, hn, rfl, hF.hs1⟩

set_option maxHeartbeats 4000000 in
theorem specResizeScreen_any (wd ht x y lk tp bt sx sy : Int) (ti : ByteArray) (aC : Option Addr) (lenC capC : Nat) (cs : List (Int × Int)) (aH : Option Addr) (lenH capH : Nat) (hs : List ByteArray) (aw ah q1 q2 q3 q4 q5 q7 q8 q9 : Int) (qt : ByteArray) (n : Nat) (rc : List (Int × Int)) (lr : Nat) (rh : List ByteArray) (cd : Int) (w : World) (hti : ti.size ≤ maxLen) (hc : At w aC (cellsV cs)) (hlc : cs.length = lenC) (hnc : lenC ≤ maxLen) (hh : At w aH (strs hs)) (hlh : hs.length = lenH) (hnh : lenH ≤ maxLen) (hz : ∀ s ∈ hs, s.size ≤ maxLen) (hcc : lenC ≤ capC) (hR : RszIs wd ht x y lk tp bt sx sy ti cs hs aw ah q1 q2 q3 q4 q5 q7 q8 q9 qt n rc lr rh cd) :
    Calls Try.prog 5 #[.agg #[.int .i64 wd, .int .i64 ht, .int .i64 x, .int .i64 y, .int .i64 lk, .int .i64 tp, .int .i64 bt, .int .i64 sx, .int .i64 sy, .string ti, .slice aC lenC capC, .slice aH lenH capH], .int .i64 aw, .int .i64 ah] w (ScrPost w q1 q2 q3 q4 q5 0 q7 q8 q9 qt n rc lr rh cd) := by
  have HL := Lib.hid hlc
  have HLH := Lib.hid hlh
  have HN := Lib.hid hnc
  have HNH := Lib.hid hnh
  have HZ := Lib.hid hz
  have HTI := Lib.hid hti
  have HCC := Lib.hid hcc
  have H0 : Hid (∀ o1 o2, Below w.heap.size w ((w.alloc o1).alloc o2)) := fun o1 o2 => ((Below.refl _ _).alloc (Nat.le_refl _) _).alloc (by simp) _
  have HC : Hid (∀ o1 o2, At ((w.alloc o1).alloc o2) aC (cellsV cs)) := fun o1 o2 => hc.below (H0.out o1 o2) (Nat.le_refl _)
  have HH : Hid (∀ o1 o2, At ((w.alloc o1).alloc o2) aH (strs hs)) := fun o1 o2 => hh.below (H0.out o1 o2) (Nat.le_refl _)
  have HX : Hid (∀ o1 o2, ((w.alloc o1).alloc o2).heap[w.heap.size]? = some o1 ∧ ((w.alloc o1).alloc o2).heap[w.heap.size + 1]? = some o2) := fun o1 o2 => by
    have e1 : (w.alloc o1).heap.size = w.heap.size + 1 := by simp
    exact ⟨(Below.heap_alloc _ _ _ (by omega)).trans (heap_alloc_new w _), by rw [← e1]; exact heap_alloc_new _ _⟩
  clear hc hh hlc hlh hnc hnh hz hti hcc
  rcases hR with ⟨hS, rfl, rfl, rfl, rfl, rfl, rfl, rfl, rfl, rfl, rfl, rfl, rfl, rfl, rfl⟩ | ⟨hS, hZ, rfl, rfl, rfl, rfl, rfl, rfl, rfl, rfl, rfl, rfl, rfl, rfl, rfl, rfl⟩ | ⟨Wo, Ho, Wn, Hn, rfl, rfl, rfl, rfl, hS, hZ, rfl, rfl, rfl, rfl, rfl, rfl, rfl, rfl, rfl, rfl, rfl, rfl, rfl, rfl⟩
  · have HS := Lib.hid hS
    clear hS
    go_enter Try.func5, Try.ntmps5
    go_wp2_with fail
    refine (specScr_is wd ht x y lk tp bt sx sy ti aC lenC capC cs aH lenH capH hs _ _ HTI.out (HC.out _ _) HL.out HN.out (HH.out _ _) HLH.out HNH.out HZ.out HS.out).mono ?_
    rintro e w1 ⟨rfl, hb1⟩
    have hz1 : w.heap.size + 2 ≤ w1.heap.size := by have := hb1.size; simp at this; omega
    have R1 := Lib.hid (box_below (HX.out (.cells #[.int .i64 wd, .int .i64 ht, .int .i64 x, .int .i64 y, .int .i64 lk, .int .i64 tp, .int .i64 bt, .int .i64 sx, .int .i64 sy, .string ti, .slice aC lenC capC, .slice aH lenH capH] 29) (.cells #[.int .i64 0, .int .i64 0, .int .i64 0, .int .i64 0, .int .i64 0, .int .i64 0, .int .i64 0, .int .i64 0, .int .i64 0, .string ⟨#[]⟩, .slice none 0 0, .slice none 0 0] 29)).2 hb1 (by simp))
    have HB1 : Hid (Below w.heap.size w w1) := (H0.out _ _).trans (hb1.mono (by simp; omega))
    clear hb1
    have t := box_cells R1.out
    have tf := box_free R1.out
    go_wp2
    exact bodyPost_ret (v := .tuple #[.agg #[.int .i64 0, .int .i64 0, .int .i64 0, .int .i64 0, .int .i64 0, .int .i64 0, .int .i64 0, .int .i64 0, .int .i64 0, .string ⟨#[]⟩, .slice none 0 0, .slice none 0 0], .int .i64 1]) (by simp [results, Try.results5, t, go_sem]) rfl ⟨none, 0, none, 0, rfl, Nat.zero_le _, .inl rfl, .inl rfl, .inl rfl, set12_below HB1.out (by omega) _ _ _ _ _ _ _ _ _ _ _ _⟩
  · have HS := Lib.hid hS
    have HSZ := Lib.hid hZ
    clear hS hZ
    go_enter Try.func5, Try.ntmps5
    go_wp2_with fail
    refine (specScr_is wd ht x y lk tp bt sx sy ti aC lenC capC cs aH lenH capH hs _ _ HTI.out (HC.out _ _) HL.out HN.out (HH.out _ _) HLH.out HNH.out HZ.out HS.out).mono ?_
    rintro e w1 ⟨rfl, hb1⟩
    have hz1 : w.heap.size + 2 ≤ w1.heap.size := by have := hb1.size; simp at this; omega
    have R1 := Lib.hid (box_below (HX.out (.cells #[.int .i64 wd, .int .i64 ht, .int .i64 x, .int .i64 y, .int .i64 lk, .int .i64 tp, .int .i64 bt, .int .i64 sx, .int .i64 sy, .string ti, .slice aC lenC capC, .slice aH lenH capH] 29) (.cells #[.int .i64 0, .int .i64 0, .int .i64 0, .int .i64 0, .int .i64 0, .int .i64 0, .int .i64 0, .int .i64 0, .int .i64 0, .string ⟨#[]⟩, .slice none 0 0, .slice none 0 0] 29)).2 hb1 (by simp))
    have HB1 : Hid (Below w.heap.size w w1) := (H0.out _ _).trans (hb1.mono (by simp; omega))
    clear hb1
    go_wp2_with fail
    refine (l04Size_blw _ _ false _ HSZ.out).mono ?_
    rintro e w2 ⟨rfl, hb2⟩
    have hz2 := hb2.size
    have R2 := Lib.hid (box_below R1.out hb2 (by omega))
    have HB2 : Hid (Below w.heap.size w w2) := HB1.out.trans (hb2.mono (by omega))
    clear hb2
    have t := box_cells R2.out
    have tf := box_free R2.out
    go_wp2
    exact bodyPost_ret (v := .tuple #[.agg #[.int .i64 0, .int .i64 0, .int .i64 0, .int .i64 0, .int .i64 0, .int .i64 0, .int .i64 0, .int .i64 0, .int .i64 0, .string ⟨#[]⟩, .slice none 0 0, .slice none 0 0], .int .i64 4]) (by simp [results, Try.results5, t, go_sem]) rfl ⟨none, 0, none, 0, rfl, Nat.zero_le _, .inl rfl, .inl rfl, .inl rfl, set12_below HB2.out (by omega) _ _ _ _ _ _ _ _ _ _ _ _⟩
  · have HS := Lib.hid hS
    have HSZ := Lib.hid hZ
    have HNat := Lib.hid (scr_nat 0 0 x y lk tp bt sx sy ti Wo Ho (scrB_fits (Wo : Int) (Ho : Int) x y lk tp bt sx sy ti hS) HL.out HLH.out)
    have HLR := HLH.out
    subst HLR
    clear hS hZ
    go_enter Try.func5, Try.ntmps5
    go_wp2_with fail
    refine (specScr_is (Wo : Int) (Ho : Int) x y lk tp bt sx sy ti aC lenC capC cs aH hs.length capH hs _ _ HTI.out (HC.out _ _) HL.out HN.out (HH.out _ _) rfl HNH.out HZ.out HS.out).mono ?_
    rintro e w1 ⟨rfl, hb1⟩
    have hz1 : w.heap.size + 2 ≤ w1.heap.size := by have := hb1.size; simp at this; omega
    have R1 := Lib.hid (box_below (HX.out (.cells #[.int .i64 (Wo : Int), .int .i64 (Ho : Int), .int .i64 x, .int .i64 y, .int .i64 lk, .int .i64 tp, .int .i64 bt, .int .i64 sx, .int .i64 sy, .string ti, .slice aC lenC capC, .slice aH hs.length capH] 29) (.cells #[.int .i64 0, .int .i64 0, .int .i64 0, .int .i64 0, .int .i64 0, .int .i64 0, .int .i64 0, .int .i64 0, .int .i64 0, .string ⟨#[]⟩, .slice none 0 0, .slice none 0 0] 29)).2 hb1 (by simp))
    have S1 := Lib.hid (box_below (HX.out (.cells #[.int .i64 (Wo : Int), .int .i64 (Ho : Int), .int .i64 x, .int .i64 y, .int .i64 lk, .int .i64 tp, .int .i64 bt, .int .i64 sx, .int .i64 sy, .string ti, .slice aC lenC capC, .slice aH hs.length capH] 29) (.cells #[.int .i64 0, .int .i64 0, .int .i64 0, .int .i64 0, .int .i64 0, .int .i64 0, .int .i64 0, .int .i64 0, .int .i64 0, .string ⟨#[]⟩, .slice none 0 0, .slice none 0 0] 29)).1 hb1 (by simp; omega))
    have HB1 : Hid (Below w.heap.size w w1) := (H0.out _ _).trans (hb1.mono (by simp; omega))
    have HC1 := Lib.hid ((HC.out _ _).below hb1 (Nat.le_refl _))
    have HH1 := Lib.hid ((HH.out _ _).below hb1 (Nat.le_refl _))
    clear hb1
    go_wp2_with fail
    refine (l04Size_blw _ _ true _ HSZ.out).mono ?_
    rintro e w2 ⟨rfl, hb2⟩
    have hz2 := hb2.size
    have R2 := Lib.hid (box_below R1.out hb2 (by omega))
    have HB2 : Hid (Below w.heap.size w w2) := HB1.out.trans (hb2.mono (by omega))
    have S2 := Lib.hid (box_below S1.out hb2 (by omega))
    have HC2 := Lib.hid (HC1.out.below hb2 (Nat.le_refl _))
    have HH2 := Lib.hid (HH1.out.below hb2 (Nat.le_refl _))
    have xs := box_cells S2.out
    clear hb2
    go_wp2_with fail
    refine (l04Resize_nat Wo Ho x y lk tp bt sx sy ti aC lenC capC cs aH hs.length capH hs Wn Hn _ HC2.out HH2.out HCC.out HNat.out HSZ.out).mono ?_
    rintro e w3 ⟨a', c', b', d', rfl, hk, hap, hm, hm2, hb3⟩
    have hz3 := hb3.size
    have R3 := Lib.hid (box_below R2.out hb3 (by omega))
    have HB3 : Hid (Below w.heap.size w w3) := HB2.out.trans (hb3.mono (by omega))
    have HM := Lib.hid hm
    have HM2 := Lib.hid hm2
    have HAP := Lib.hid hap
    have HK := Lib.hid hk
    clear hb3 xs hm hm2 hap hk
    have t := box_cells R3.out
    have tf := box_free R3.out
    go_wp2
    exact bodyPost_ret (v := .tuple #[.agg #[.int .i64 (Wn : Int), .int .i64 (Hn : Int), .int .i64 (min x (Wn : Int)), .int .i64 (min y ((Hn : Int) - 1)), .int .i64 lk, .int .i64 0, .int .i64 ((Hn : Int) - 1), .int .i64 (min sx (Wn : Int)), .int .i64 (min sy ((Hn : Int) - 1)), .string ti, .slice a' (Hn * Wn) c', .slice b' hs.length d'], .int .i64 0]) (by simp [results, Try.results5, t, go_sem]) rfl ⟨a', c', b', d', rfl, HK.out, HAP.out, (set12_mine HM.out (by omega) _ _ _ _ _ _ _ _ _ _ _ _).mono (by omega), (set12_mine HM2.out (by omega) _ _ _ _ _ _ _ _ _ _ _ _).mono (by omega), set12_below HB3.out (by omega) _ _ _ _ _ _ _ _ _ _ _ _⟩

set_option maxHeartbeats 4000000 in
theorem implResizeScreen_any (wd ht x y lk tp bt sx sy : Int) (ti : ByteArray) (aC : Option Addr) (lenC capC : Nat) (cs : List (Int × Int)) (aH : Option Addr) (lenH capH : Nat) (hs : List ByteArray) (aw ah q1 q2 q3 q4 q5 q7 q8 q9 : Int) (qt : ByteArray) (n : Nat) (rc : List (Int × Int)) (lr : Nat) (rh : List ByteArray) (cd : Int) (w : World) (hti : ti.size ≤ maxLen) (hc : At w aC (cellsV cs)) (hlc : cs.length = lenC) (hnc : lenC ≤ maxLen) (hh : At w aH (strs hs)) (hlh : hs.length = lenH) (hnh : lenH ≤ maxLen) (hz : ∀ s ∈ hs, s.size ≤ maxLen) (hcc : lenC ≤ capC) (hR : RszIs wd ht x y lk tp bt sx sy ti cs hs aw ah q1 q2 q3 q4 q5 q7 q8 q9 qt n rc lr rh cd) :
    Calls Try.prog 7 #[.agg #[.int .i64 wd, .int .i64 ht, .int .i64 x, .int .i64 y, .int .i64 lk, .int .i64 tp, .int .i64 bt, .int .i64 sx, .int .i64 sy, .string ti, .slice aC lenC capC, .slice aH lenH capH], .int .i64 aw, .int .i64 ah] w (ScrPost w q1 q2 q3 q4 q5 0 q7 q8 q9 qt n rc lr rh cd) := by
  have HL := Lib.hid hlc
  have HLH := Lib.hid hlh
  have HN := Lib.hid hnc
  have HNH := Lib.hid hnh
  have HZ := Lib.hid hz
  have HTI := Lib.hid hti
  have HCC := Lib.hid hcc
  have H0 : Hid (∀ o1 o2, Below w.heap.size w ((w.alloc o1).alloc o2)) := fun o1 o2 => ((Below.refl _ _).alloc (Nat.le_refl _) _).alloc (by simp) _
  have HC : Hid (∀ o1 o2, At ((w.alloc o1).alloc o2) aC (cellsV cs)) := fun o1 o2 => hc.below (H0.out o1 o2) (Nat.le_refl _)
  have HH : Hid (∀ o1 o2, At ((w.alloc o1).alloc o2) aH (strs hs)) := fun o1 o2 => hh.below (H0.out o1 o2) (Nat.le_refl _)
  have HX : Hid (∀ o1 o2, ((w.alloc o1).alloc o2).heap[w.heap.size]? = some o1 ∧ ((w.alloc o1).alloc o2).heap[w.heap.size + 1]? = some o2) := fun o1 o2 => by
    have e1 : (w.alloc o1).heap.size = w.heap.size + 1 := by simp
    exact ⟨(Below.heap_alloc _ _ _ (by omega)).trans (heap_alloc_new w _), by rw [← e1]; exact heap_alloc_new _ _⟩
  clear hc hh hlc hlh hnc hnh hz hti hcc
  rcases hR with ⟨hS, rfl, rfl, rfl, rfl, rfl, rfl, rfl, rfl, rfl, rfl, rfl, rfl, rfl, rfl⟩ | ⟨hS, hZ, rfl, rfl, rfl, rfl, rfl, rfl, rfl, rfl, rfl, rfl, rfl, rfl, rfl, rfl⟩ | ⟨Wo, Ho, Wn, Hn, rfl, rfl, rfl, rfl, hS, hZ, rfl, rfl, rfl, rfl, rfl, rfl, rfl, rfl, rfl, rfl, rfl, rfl, rfl, rfl⟩
  · have HS := Lib.hid hS
    clear hS
    go_enter Try.func7, Try.ntmps7
    go_wp2_with fail
    refine (isScr_is wd ht x y lk tp bt sx sy ti aC lenC capC cs aH lenH capH hs _ _ HTI.out (HC.out _ _) HL.out HN.out (HH.out _ _) HLH.out HNH.out HZ.out HS.out).mono ?_
    rintro e w1 ⟨rfl, hb1⟩
    have hz1 : w.heap.size + 2 ≤ w1.heap.size := by have := hb1.size; simp at this; omega
    have R1 := Lib.hid (box_below (HX.out (.cells #[.int .i64 wd, .int .i64 ht, .int .i64 x, .int .i64 y, .int .i64 lk, .int .i64 tp, .int .i64 bt, .int .i64 sx, .int .i64 sy, .string ti, .slice aC lenC capC, .slice aH lenH capH] 29) (.cells #[.int .i64 0, .int .i64 0, .int .i64 0, .int .i64 0, .int .i64 0, .int .i64 0, .int .i64 0, .int .i64 0, .int .i64 0, .string ⟨#[]⟩, .slice none 0 0, .slice none 0 0] 29)).2 hb1 (by simp))
    have HB1 : Hid (Below w.heap.size w w1) := (H0.out _ _).trans (hb1.mono (by simp; omega))
    clear hb1
    have t := box_cells R1.out
    have tf := box_free R1.out
    go_wp2
    exact bodyPost_ret (v := .tuple #[.agg #[.int .i64 0, .int .i64 0, .int .i64 0, .int .i64 0, .int .i64 0, .int .i64 0, .int .i64 0, .int .i64 0, .int .i64 0, .string ⟨#[]⟩, .slice none 0 0, .slice none 0 0], .int .i64 1]) (by simp [results, Try.results7, t, go_sem]) rfl ⟨none, 0, none, 0, rfl, Nat.zero_le _, .inl rfl, .inl rfl, .inl rfl, set12_below HB1.out (by omega) _ _ _ _ _ _ _ _ _ _ _ _⟩
  · have HS := Lib.hid hS
    have HSZ := Lib.hid hZ
    clear hS hZ
    go_enter Try.func7, Try.ntmps7
    go_wp2_with fail
    refine (isScr_is wd ht x y lk tp bt sx sy ti aC lenC capC cs aH lenH capH hs _ _ HTI.out (HC.out _ _) HL.out HN.out (HH.out _ _) HLH.out HNH.out HZ.out HS.out).mono ?_
    rintro e w1 ⟨rfl, hb1⟩
    have hz1 : w.heap.size + 2 ≤ w1.heap.size := by have := hb1.size; simp at this; omega
    have R1 := Lib.hid (box_below (HX.out (.cells #[.int .i64 wd, .int .i64 ht, .int .i64 x, .int .i64 y, .int .i64 lk, .int .i64 tp, .int .i64 bt, .int .i64 sx, .int .i64 sy, .string ti, .slice aC lenC capC, .slice aH lenH capH] 29) (.cells #[.int .i64 0, .int .i64 0, .int .i64 0, .int .i64 0, .int .i64 0, .int .i64 0, .int .i64 0, .int .i64 0, .int .i64 0, .string ⟨#[]⟩, .slice none 0 0, .slice none 0 0] 29)).2 hb1 (by simp))
    have HB1 : Hid (Below w.heap.size w w1) := (H0.out _ _).trans (hb1.mono (by simp; omega))
    clear hb1
    go_wp2_with fail
    refine (isSize_blw _ _ false _ HSZ.out).mono ?_
    rintro e w2 ⟨rfl, hb2⟩
    have hz2 := hb2.size
    have R2 := Lib.hid (box_below R1.out hb2 (by omega))
    have HB2 : Hid (Below w.heap.size w w2) := HB1.out.trans (hb2.mono (by omega))
    clear hb2
    have t := box_cells R2.out
    have tf := box_free R2.out
    go_wp2
    exact bodyPost_ret (v := .tuple #[.agg #[.int .i64 0, .int .i64 0, .int .i64 0, .int .i64 0, .int .i64 0, .int .i64 0, .int .i64 0, .int .i64 0, .int .i64 0, .string ⟨#[]⟩, .slice none 0 0, .slice none 0 0], .int .i64 4]) (by simp [results, Try.results7, t, go_sem]) rfl ⟨none, 0, none, 0, rfl, Nat.zero_le _, .inl rfl, .inl rfl, .inl rfl, set12_below HB2.out (by omega) _ _ _ _ _ _ _ _ _ _ _ _⟩
  · have HS := Lib.hid hS
    have HSZ := Lib.hid hZ
    have HNat := Lib.hid (scr_nat 0 0 x y lk tp bt sx sy ti Wo Ho (scrB_fits (Wo : Int) (Ho : Int) x y lk tp bt sx sy ti hS) HL.out HLH.out)
    have HLR := HLH.out
    subst HLR
    clear hS hZ
    go_enter Try.func7, Try.ntmps7
    go_wp2_with fail
    refine (isScr_is (Wo : Int) (Ho : Int) x y lk tp bt sx sy ti aC lenC capC cs aH hs.length capH hs _ _ HTI.out (HC.out _ _) HL.out HN.out (HH.out _ _) rfl HNH.out HZ.out HS.out).mono ?_
    rintro e w1 ⟨rfl, hb1⟩
    have hz1 : w.heap.size + 2 ≤ w1.heap.size := by have := hb1.size; simp at this; omega
    have R1 := Lib.hid (box_below (HX.out (.cells #[.int .i64 (Wo : Int), .int .i64 (Ho : Int), .int .i64 x, .int .i64 y, .int .i64 lk, .int .i64 tp, .int .i64 bt, .int .i64 sx, .int .i64 sy, .string ti, .slice aC lenC capC, .slice aH hs.length capH] 29) (.cells #[.int .i64 0, .int .i64 0, .int .i64 0, .int .i64 0, .int .i64 0, .int .i64 0, .int .i64 0, .int .i64 0, .int .i64 0, .string ⟨#[]⟩, .slice none 0 0, .slice none 0 0] 29)).2 hb1 (by simp))
    have S1 := Lib.hid (box_below (HX.out (.cells #[.int .i64 (Wo : Int), .int .i64 (Ho : Int), .int .i64 x, .int .i64 y, .int .i64 lk, .int .i64 tp, .int .i64 bt, .int .i64 sx, .int .i64 sy, .string ti, .slice aC lenC capC, .slice aH hs.length capH] 29) (.cells #[.int .i64 0, .int .i64 0, .int .i64 0, .int .i64 0, .int .i64 0, .int .i64 0, .int .i64 0, .int .i64 0, .int .i64 0, .string ⟨#[]⟩, .slice none 0 0, .slice none 0 0] 29)).1 hb1 (by simp; omega))
    have HB1 : Hid (Below w.heap.size w w1) := (H0.out _ _).trans (hb1.mono (by simp; omega))
    have HC1 := Lib.hid ((HC.out _ _).below hb1 (Nat.le_refl _))
    have HH1 := Lib.hid ((HH.out _ _).below hb1 (Nat.le_refl _))
    clear hb1
    go_wp2_with fail
    refine (isSize_blw _ _ true _ HSZ.out).mono ?_
    rintro e w2 ⟨rfl, hb2⟩
    have hz2 := hb2.size
    have R2 := Lib.hid (box_below R1.out hb2 (by omega))
    have HB2 : Hid (Below w.heap.size w w2) := HB1.out.trans (hb2.mono (by omega))
    have S2 := Lib.hid (box_below S1.out hb2 (by omega))
    have HC2 := Lib.hid (HC1.out.below hb2 (Nat.le_refl _))
    have HH2 := Lib.hid (HH1.out.below hb2 (Nat.le_refl _))
    have xs := box_cells S2.out
    clear hb2
    go_wp2_with fail
    refine (resized_nat Wo Ho x y lk tp bt sx sy ti aC lenC capC cs aH hs.length capH hs Wn Hn _ HC2.out HH2.out HCC.out HNat.out HSZ.out).mono ?_
    rintro e w3 ⟨a', c', b', d', rfl, hk, hap, hm, hm2, hb3⟩
    have hz3 := hb3.size
    have R3 := Lib.hid (box_below R2.out hb3 (by omega))
    have HB3 : Hid (Below w.heap.size w w3) := HB2.out.trans (hb3.mono (by omega))
    have HM := Lib.hid hm
    have HM2 := Lib.hid hm2
    have HAP := Lib.hid hap
    have HK := Lib.hid hk
    clear hb3 xs hm hm2 hap hk
    have t := box_cells R3.out
    have tf := box_free R3.out
    go_wp2
    exact bodyPost_ret (v := .tuple #[.agg #[.int .i64 (Wn : Int), .int .i64 (Hn : Int), .int .i64 (min x (Wn : Int)), .int .i64 (min y ((Hn : Int) - 1)), .int .i64 lk, .int .i64 0, .int .i64 ((Hn : Int) - 1), .int .i64 (min sx (Wn : Int)), .int .i64 (min sy ((Hn : Int) - 1)), .string ti, .slice a' (Hn * Wn) c', .slice b' hs.length d'], .int .i64 0]) (by simp [results, Try.results7, t, go_sem]) rfl ⟨a', c', b', d', rfl, HK.out, HAP.out, (set12_mine HM.out (by omega) _ _ _ _ _ _ _ _ _ _ _ _).mono (by omega), (set12_mine HM2.out (by omega) _ _ _ _ _ _ _ _ _ _ _ _).mono (by omega), set12_below HB3.out (by omega) _ _ _ _ _ _ _ _ _ _ _ _⟩
end Go.Proofs.Ytfdodbkopbmjeaa
