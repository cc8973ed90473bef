/-
  Contracts of SameScreen of the given program and of its reference. Conditions: bounds on lengths.
-/
import Derived.Test.YtfabclhcceooaaaScrBytes
import Derived.Deep.RegionHeld3
namespace Go.Proofs.Ytfabclhcceooaaa
open Go.ChangeShapes Go.WideShapes Go.ChangeAt Go.RowKit
set_option linter.unusedVariables false
set_option linter.unusedSimpArgs false
set_option maxRecDepth 100000
attribute [local irreducible] wpList

def sameT (a b : List UInt8) : Bool := a == b
def sameR (b1 b2 : Bool) (l1 l2 : List UInt8) : Bool × Int := if (b1 && b2) = true then (sameT l1 l2, 0) else (false, 1)


set_option maxHeartbeats 8000000 in
theorem specSameScreen_any (wd ht x y lk tp bt sx sy : Int) (ti : ByteArray) (aC : Option Addr) (lenC capC : Nat) (cs : List (Int × Int)) (aH : Option Addr) (lenH capH : Nat) (hs : List ByteArray) (wd2 ht2 xq yq lk2 tp2 bt2 sx2 sy2 : Int) (ti2 : ByteArray) (aC2 : Option Addr) (lenC2 capC2 : Nat) (cs2 : List (Int × Int)) (aH2 : Option Addr) (lenH2 capH2 : Nat) (hs2 : List ByteArray) (r1 r2 : Bool) (l1 l2 : List UInt8) (r : Bool) (cd : Int) (w : World) (hti : ti.size ≤ maxLen) (hc : At w aC (cellsV cs)) (hlc : cs.length = lenC) (hnc : lenC ≤ maxLen) (hh : At w aH (strs hs)) (hlh : hs.length = lenH) (hnh : lenH ≤ maxLen) (hz : ∀ s ∈ hs, s.size ≤ maxLen) (hcc : lenC ≤ capC) (hti2 : ti2.size ≤ maxLen) (hc2 : At w aC2 (cellsV cs2)) (hlc2 : cs2.length = lenC2) (hnc2 : lenC2 ≤ maxLen) (hh2 : At w aH2 (strs hs2)) (hlh2 : hs2.length = lenH2) (hnh2 : lenH2 ≤ maxLen) (hz2 : ∀ s ∈ hs2, s.size ≤ maxLen) (hcc2 : lenC2 ≤ capC2) (hr1 : scrB wd ht x y lk tp bt sx sy ti cs hs = r1) (hr2 : scrB wd2 ht2 xq yq lk2 tp2 bt2 sx2 sy2 ti2 cs2 hs2 = r2) (hl1 : scrL wd ht x y lk tp bt sx sy ti cs hs = l1) (hl2 : scrL wd2 ht2 xq yq lk2 tp2 bt2 sx2 sy2 ti2 cs2 hs2 = l2) (hR : sameR r1 r2 l1 l2 = (r, cd)) :
    Calls Try.prog 30 #[.agg #[.int .i64 wd, .int .i64 ht, .int .i64 x, .int .i64 y, .int .i64 lk, .int .i64 tp, .int .i64 bt, .int .i64 sx, .int .i64 sy, .string ti, .slice aC lenC capC, .slice aH lenH capH], .agg #[.int .i64 wd2, .int .i64 ht2, .int .i64 xq, .int .i64 yq, .int .i64 lk2, .int .i64 tp2, .int .i64 bt2, .int .i64 sx2, .int .i64 sy2, .string ti2, .slice aC2 lenC2 capC2, .slice aH2 lenH2 capH2]] w fun e w' => e = .returned (.tuple #[.bool r, .int .i64 cd]) ∧ Below w.heap.size w w' := by
  have H0 := Lib.hid (((Below.refl w.heap.size w).alloc (Nat.le_refl _) (.cells #[.int .i64 wd, .int .i64 ht, .int .i64 x, .int .i64 y, .int .i64 lk, .int .i64 tp, .int .i64 bt, .int .i64 sx, .int .i64 sy, .string ti, .slice aC lenC capC, .slice aH lenH capH] 42)).alloc (by simp) (.cells #[.int .i64 wd2, .int .i64 ht2, .int .i64 xq, .int .i64 yq, .int .i64 lk2, .int .i64 tp2, .int .i64 bt2, .int .i64 sx2, .int .i64 sy2, .string ti2, .slice aC2 lenC2 capC2, .slice aH2 lenH2 capH2] 42))
  have H0C := Lib.hid (hc.below H0.out (Nat.le_refl _))
  have H0H := Lib.hid (hh.below H0.out (Nat.le_refl _))
  have H0C2 := Lib.hid (hc2.below H0.out (Nat.le_refl _))
  have H0H2 := Lib.hid (hh2.below H0.out (Nat.le_refl _))
  have HLC := Lib.hid hlc
  have HNC := Lib.hid hnc
  have HLH := Lib.hid hlh
  have HNH := Lib.hid hnh
  have HZ := Lib.hid hz
  have HTI := Lib.hid hti
  have HCC := Lib.hid hcc
  have HLC2 := Lib.hid hlc2
  have HNC2 := Lib.hid hnc2
  have HLH2 := Lib.hid hlh2
  have HNH2 := Lib.hid hnh2
  have HZ2 := Lib.hid hz2
  have HTI2 := Lib.hid hti2
  have HCC2 := Lib.hid hcc2
  clear hti hc hlc hnc hh hlh hnh hz hcc hti2 hc2 hlc2 hnc2 hh2 hlh2 hnh2 hz2 hcc2
  have HR1 := Lib.hid hr1
  have HR2 := Lib.hid hr2
  have HLL := Lib.hid hl1
  have HLL2 := Lib.hid hl2
  have HF : Hid (r1 = true → ScrFits wd ht x y lk tp bt sx sy ti cs hs) := fun h => scrB_fits wd ht x y lk tp bt sx sy ti (hr1.trans h)
  have HF2 : Hid (r2 = true → ScrFits wd2 ht2 xq yq lk2 tp2 bt2 sx2 sy2 ti2 cs2 hs2) := fun h => scrB_fits wd2 ht2 xq yq lk2 tp2 bt2 sx2 sy2 ti2 (hr2.trans h)
  have HR := Lib.hid hR
  clear hr1 hr2 hl1 hl2 hR
  have e1 : ((w.alloc (.cells #[.int .i64 wd, .int .i64 ht, .int .i64 x, .int .i64 y, .int .i64 lk, .int .i64 tp, .int .i64 bt, .int .i64 sx, .int .i64 sy, .string ti, .slice aC lenC capC, .slice aH lenH capH] 42)).alloc (.cells #[.int .i64 wd2, .int .i64 ht2, .int .i64 xq, .int .i64 yq, .int .i64 lk2, .int .i64 tp2, .int .i64 bt2, .int .i64 sx2, .int .i64 sy2, .string ti2, .slice aC2 lenC2 capC2, .slice aH2 lenH2 capH2] 42)).heap[w.heap.size]? = some (.cells #[.int .i64 wd, .int .i64 ht, .int .i64 x, .int .i64 y, .int .i64 lk, .int .i64 tp, .int .i64 bt, .int .i64 sx, .int .i64 sy, .string ti, .slice aC lenC capC, .slice aH lenH capH] 42) := (Below.heap_alloc _ _ _ (by simp)).trans (heap_alloc_new w _)
  have e2 : ((w.alloc (.cells #[.int .i64 wd, .int .i64 ht, .int .i64 x, .int .i64 y, .int .i64 lk, .int .i64 tp, .int .i64 bt, .int .i64 sx, .int .i64 sy, .string ti, .slice aC lenC capC, .slice aH lenH capH] 42)).alloc (.cells #[.int .i64 wd2, .int .i64 ht2, .int .i64 xq, .int .i64 yq, .int .i64 lk2, .int .i64 tp2, .int .i64 bt2, .int .i64 sx2, .int .i64 sy2, .string ti2, .slice aC2 lenC2 capC2, .slice aH2 lenH2 capH2] 42)).heap[w.heap.size + 1]? = some (.cells #[.int .i64 wd2, .int .i64 ht2, .int .i64 xq, .int .i64 yq, .int .i64 lk2, .int .i64 tp2, .int .i64 bt2, .int .i64 sx2, .int .i64 sy2, .string ti2, .slice aC2 lenC2 capC2, .slice aH2 lenH2 capH2] 42) := by
    have := heap_alloc_new (w.alloc (.cells #[.int .i64 wd, .int .i64 ht, .int .i64 x, .int .i64 y, .int .i64 lk, .int .i64 tp, .int .i64 bt, .int .i64 sx, .int .i64 sy, .string ti, .slice aC lenC capC, .slice aH lenH capH] 42)) (.cells #[.int .i64 wd2, .int .i64 ht2, .int .i64 xq, .int .i64 yq, .int .i64 lk2, .int .i64 tp2, .int .i64 bt2, .int .i64 sx2, .int .i64 sy2, .string ti2, .slice aC2 lenC2 capC2, .slice aH2 lenH2 capH2] 42)
    simpa using this
  have E1 := Lib.hid e1
  have E2 := Lib.hid e2
  clear e1 e2
  go_enter Try.func30, Try.ntmps30
  go_wp2_with fail
  refine (specScr_is wd ht x y lk tp bt sx sy ti aC lenC capC cs aH lenH capH hs _ _ HTI.out H0C.out HLC.out HNC.out H0H.out HLH.out HNH.out HZ.out HR1.out).mono ?_
  rintro e w1 ⟨rfl, hb1⟩
  have hz1 : w.heap.size + 2 ≤ w1.heap.size := by have := hb1.size; simp at this; omega
  have X1 := Lib.hid (box_below E1.out hb1 (by simp; omega))
  have Y1 := Lib.hid (box_below E2.out hb1 (by simp))
  have x1 := box_cells X1.out
  have y1 := box_cells Y1.out
  have B1 : Below w.heap.size w w1 := H0.out.trans (hb1.mono (by simp; omega))
  have C1 := Lib.hid (H0C.out.below hb1 (Nat.le_refl _))
  have D1 := Lib.hid (H0H.out.below hb1 (Nat.le_refl _))
  have C12 := Lib.hid (H0C2.out.below hb1 (Nat.le_refl _))
  have D12 := Lib.hid (H0H2.out.below hb1 (Nat.le_refl _))
  clear hb1 H0C H0H H0C2 H0H2 E1 E2 H0
  cases r1
  · obtain ⟨rfl, rfl⟩ := Prod.mk.inj HR.out
    go_wp2
    go_ret2
    exact ⟨rfl, B1⟩
  go_wp2_with fail
  refine (specScr_is wd2 ht2 xq yq lk2 tp2 bt2 sx2 sy2 ti2 aC2 lenC2 capC2 cs2 aH2 lenH2 capH2 hs2 _ _ HTI2.out C12.out HLC2.out HNC2.out D12.out HLH2.out HNH2.out HZ2.out HR2.out).mono ?_
  rintro e w2 ⟨rfl, hb2⟩
  have hz2 := hb2.size
  have X2 := Lib.hid (box_below X1.out hb2 (by omega))
  have Y2 := Lib.hid (box_below Y1.out hb2 (by omega))
  have x2 := box_cells X2.out
  have y2 := box_cells Y2.out
  have B2 : Below w.heap.size w w2 := B1.trans (hb2.mono (by omega))
  have C2 := Lib.hid (C1.out.below hb2 (Nat.le_refl _))
  have D2 := Lib.hid (D1.out.below hb2 (Nat.le_refl _))
  have C22 := Lib.hid (C12.out.below hb2 (Nat.le_refl _))
  have D22 := Lib.hid (D12.out.below hb2 (Nat.le_refl _))
  clear hb2 x1 y1 X1 Y1 C1 D1 C12 D12 B1
  cases r2
  · obtain ⟨rfl, rfl⟩ := Prod.mk.inj HR.out
    go_wp2
    go_ret2
    exact ⟨rfl, B2⟩
  replace HF : Hid (ScrFits wd ht x y lk tp bt sx sy ti cs hs) := by have h := HF.out; show ScrFits _ _ _ _ _ _ _ _ _ _ _ _; simpa using h
  replace HF2 : Hid (ScrFits wd2 ht2 xq yq lk2 tp2 bt2 sx2 sy2 ti2 cs2 hs2) := by have h := HF2.out; show ScrFits _ _ _ _ _ _ _ _ _ _ _ _; simpa using h
  have xd : ∀ i, w2.drew.cell? ⟨w.heap.size, i, none⟩ = (#[.int .i64 wd, .int .i64 ht, .int .i64 x, .int .i64 y, .int .i64 lk, .int .i64 tp, .int .i64 bt, .int .i64 sx, .int .i64 sy, .string ti, .slice aC lenC capC, .slice aH lenH capH] : Array Value)[i]? := x2
  have yd : ∀ i, w2.drew.cell? ⟨w.heap.size + 1, i, none⟩ = (#[.int .i64 wd2, .int .i64 ht2, .int .i64 xq, .int .i64 yq, .int .i64 lk2, .int .i64 tp2, .int .i64 bt2, .int .i64 sx2, .int .i64 sy2, .string ti2, .slice aC2 lenC2 capC2, .slice aH2 lenH2 capH2] : Array Value)[i]? := y2
  have Cd : At w2.drew aC (cellsV cs) := C2.out
  have Dd : At w2.drew aH (strs hs) := D2.out
  have Cd2 : At w2.drew aC2 (cellsV cs2) := C22.out
  have Dd2 : At w2.drew aH2 (strs hs2) := D22.out
  have tok : Hid True := trivial
  go_wp2_with fail
  go_region_held3 (fun w' => (∀ i, w'.cell? ⟨w.heap.size, i, none⟩ = (#[.int .i64 wd, .int .i64 ht, .int .i64 x, .int .i64 y, .int .i64 lk, .int .i64 tp, .int .i64 bt, .int .i64 sx, .int .i64 sy, .string ti, .slice aC lenC capC, .slice aH lenH capH] : Array Value)[i]?) ∧ (∀ i, w'.cell? ⟨w.heap.size + 1, i, none⟩ = (#[.int .i64 wd2, .int .i64 ht2, .int .i64 xq, .int .i64 yq, .int .i64 lk2, .int .i64 tp2, .int .i64 bt2, .int .i64 sx2, .int .i64 sy2, .string ti2, .slice aC2 lenC2 capC2, .slice aH2 lenH2 capH2] : Array Value)[i]?)) (first | with_reducible exact ⟨x4, y4⟩ | with_reducible exact ⟨x3, y3⟩ | exact ⟨xd, yd⟩ | fail)
    (first
    | (have _nd := hb3; go_at_call 70; refine (l04Bytes_is wd2 ht2 xq yq lk2 tp2 bt2 sx2 sy2 ti2 aC2 lenC2 capC2 cs2 aH2 lenH2 capH2 hs2 l2 _ (Cd2.below hb3 (Nat.le_refl _)) (Dd2.below hb3 (Nat.le_refl _)) HLC2.out HLH2.out HF2.out HLL2.out).mono ?_; rintro e w4 ⟨rfl, hb4⟩; have hz4 := hb4.size; have x4 := cells_below x3 hb4 (by omega); have y4 := cells_below y3 hb4 (by omega); have B4 : Below w.heap.size w w4 := B3.trans (hb4.mono (by omega)))
    | (clear tok; go_at_call 70; refine (l04Bytes_is wd ht x y lk tp bt sx sy ti aC lenC capC cs aH lenH capH hs l1 _ Cd Dd HLC.out HLH.out HF.out HLL.out).mono ?_; rintro e w3 ⟨rfl, hb3⟩; have hb3' : Below w2.heap.size w2.drew w3 := hb3; have hz3 : w2.heap.size ≤ w3.heap.size := hb3'.size; have x3 := cells_below xd hb3' (by omega); have y3 := cells_below yd hb3' (by omega); have B3 : Below w.heap.size w w3 := B2.drew.trans (hb3'.mono (by omega)))
    | fail)
  rename_i hh0
  clear hh0 x2 y2 xd yd x3 y3 x4 y4
  obtain ⟨rfl, rfl⟩ := Prod.mk.inj HR.out
  go_wp2
  go_ret2
  exact ⟨rfl, B4⟩

set_option maxHeartbeats 8000000 in
theorem implSameScreen_any (wd ht x y lk tp bt sx sy : Int) (ti : ByteArray) (aC : Option Addr) (lenC capC : Nat) (cs : List (Int × Int)) (aH : Option Addr) (lenH capH : Nat) (hs : List ByteArray) (wd2 ht2 xq yq lk2 tp2 bt2 sx2 sy2 : Int) (ti2 : ByteArray) (aC2 : Option Addr) (lenC2 capC2 : Nat) (cs2 : List (Int × Int)) (aH2 : Option Addr) (lenH2 capH2 : Nat) (hs2 : List ByteArray) (r1 r2 : Bool) (l1 l2 : List UInt8) (r : Bool) (cd : Int) (w : World) (hti : ti.size ≤ maxLen) (hc : At w aC (cellsV cs)) (hlc : cs.length = lenC) (hnc : lenC ≤ maxLen) (hh : At w aH (strs hs)) (hlh : hs.length = lenH) (hnh : lenH ≤ maxLen) (hz : ∀ s ∈ hs, s.size ≤ maxLen) (hcc : lenC ≤ capC) (hti2 : ti2.size ≤ maxLen) (hc2 : At w aC2 (cellsV cs2)) (hlc2 : cs2.length = lenC2) (hnc2 : lenC2 ≤ maxLen) (hh2 : At w aH2 (strs hs2)) (hlh2 : hs2.length = lenH2) (hnh2 : lenH2 ≤ maxLen) (hz2 : ∀ s ∈ hs2, s.size ≤ maxLen) (hcc2 : lenC2 ≤ capC2) (hr1 : scrB wd ht x y lk tp bt sx sy ti cs hs = r1) (hr2 : scrB wd2 ht2 xq yq lk2 tp2 bt2 sx2 sy2 ti2 cs2 hs2 = r2) (hl1 : scrL wd ht x y lk tp bt sx sy ti cs hs = l1) (hl2 : scrL wd2 ht2 xq yq lk2 tp2 bt2 sx2 sy2 ti2 cs2 hs2 = l2) (hR : sameR r1 r2 l1 l2 = (r, cd)) :
    Calls Try.prog 31 #[.agg #[.int .i64 wd, .int .i64 ht, .int .i64 x, .int .i64 y, .int .i64 lk, .int .i64 tp, .int .i64 bt, .int .i64 sx, .int .i64 sy, .string ti, .slice aC lenC capC, .slice aH lenH capH], .agg #[.int .i64 wd2, .int .i64 ht2, .int .i64 xq, .int .i64 yq, .int .i64 lk2, .int .i64 tp2, .int .i64 bt2, .int .i64 sx2, .int .i64 sy2, .string ti2, .slice aC2 lenC2 capC2, .slice aH2 lenH2 capH2]] w fun e w' => e = .returned (.tuple #[.bool r, .int .i64 cd]) ∧ Below w.heap.size w w' := by
  have H0 := Lib.hid (((Below.refl w.heap.size w).alloc (Nat.le_refl _) (.cells #[.int .i64 wd, .int .i64 ht, .int .i64 x, .int .i64 y, .int .i64 lk, .int .i64 tp, .int .i64 bt, .int .i64 sx, .int .i64 sy, .string ti, .slice aC lenC capC, .slice aH lenH capH] 42)).alloc (by simp) (.cells #[.int .i64 wd2, .int .i64 ht2, .int .i64 xq, .int .i64 yq, .int .i64 lk2, .int .i64 tp2, .int .i64 bt2, .int .i64 sx2, .int .i64 sy2, .string ti2, .slice aC2 lenC2 capC2, .slice aH2 lenH2 capH2] 42))
  have H0C := Lib.hid (hc.below H0.out (Nat.le_refl _))
  have H0H := Lib.hid (hh.below H0.out (Nat.le_refl _))
  have H0C2 := Lib.hid (hc2.below H0.out (Nat.le_refl _))
  have H0H2 := Lib.hid (hh2.below H0.out (Nat.le_refl _))
  have HLC := Lib.hid hlc
  have HNC := Lib.hid hnc
  have HLH := Lib.hid hlh
  have HNH := Lib.hid hnh
  have HZ := Lib.hid hz
  have HTI := Lib.hid hti
  have HCC := Lib.hid hcc
  have HLC2 := Lib.hid hlc2
  have HNC2 := Lib.hid hnc2
  have HLH2 := Lib.hid hlh2
  have HNH2 := Lib.hid hnh2
  have HZ2 := Lib.hid hz2
  have HTI2 := Lib.hid hti2
  have HCC2 := Lib.hid hcc2
  clear hti hc hlc hnc hh hlh hnh hz hcc hti2 hc2 hlc2 hnc2 hh2 hlh2 hnh2 hz2 hcc2
  have HR1 := Lib.hid hr1
  have HR2 := Lib.hid hr2
  have HLL := Lib.hid hl1
  have HLL2 := Lib.hid hl2
  have HF : Hid (r1 = true → ScrFits wd ht x y lk tp bt sx sy ti cs hs) := fun h => scrB_fits wd ht x y lk tp bt sx sy ti (hr1.trans h)
  have HF2 : Hid (r2 = true → ScrFits wd2 ht2 xq yq lk2 tp2 bt2 sx2 sy2 ti2 cs2 hs2) := fun h => scrB_fits wd2 ht2 xq yq lk2 tp2 bt2 sx2 sy2 ti2 (hr2.trans h)
  have HR := Lib.hid hR
  clear hr1 hr2 hl1 hl2 hR
  have e1 : ((w.alloc (.cells #[.int .i64 wd, .int .i64 ht, .int .i64 x, .int .i64 y, .int .i64 lk, .int .i64 tp, .int .i64 bt, .int .i64 sx, .int .i64 sy, .string ti, .slice aC lenC capC, .slice aH lenH capH] 42)).alloc (.cells #[.int .i64 wd2, .int .i64 ht2, .int .i64 xq, .int .i64 yq, .int .i64 lk2, .int .i64 tp2, .int .i64 bt2, .int .i64 sx2, .int .i64 sy2, .string ti2, .slice aC2 lenC2 capC2, .slice aH2 lenH2 capH2] 42)).heap[w.heap.size]? = some (.cells #[.int .i64 wd, .int .i64 ht, .int .i64 x, .int .i64 y, .int .i64 lk, .int .i64 tp, .int .i64 bt, .int .i64 sx, .int .i64 sy, .string ti, .slice aC lenC capC, .slice aH lenH capH] 42) := (Below.heap_alloc _ _ _ (by simp)).trans (heap_alloc_new w _)
  have e2 : ((w.alloc (.cells #[.int .i64 wd, .int .i64 ht, .int .i64 x, .int .i64 y, .int .i64 lk, .int .i64 tp, .int .i64 bt, .int .i64 sx, .int .i64 sy, .string ti, .slice aC lenC capC, .slice aH lenH capH] 42)).alloc (.cells #[.int .i64 wd2, .int .i64 ht2, .int .i64 xq, .int .i64 yq, .int .i64 lk2, .int .i64 tp2, .int .i64 bt2, .int .i64 sx2, .int .i64 sy2, .string ti2, .slice aC2 lenC2 capC2, .slice aH2 lenH2 capH2] 42)).heap[w.heap.size + 1]? = some (.cells #[.int .i64 wd2, .int .i64 ht2, .int .i64 xq, .int .i64 yq, .int .i64 lk2, .int .i64 tp2, .int .i64 bt2, .int .i64 sx2, .int .i64 sy2, .string ti2, .slice aC2 lenC2 capC2, .slice aH2 lenH2 capH2] 42) := by
    have := heap_alloc_new (w.alloc (.cells #[.int .i64 wd, .int .i64 ht, .int .i64 x, .int .i64 y, .int .i64 lk, .int .i64 tp, .int .i64 bt, .int .i64 sx, .int .i64 sy, .string ti, .slice aC lenC capC, .slice aH lenH capH] 42)) (.cells #[.int .i64 wd2, .int .i64 ht2, .int .i64 xq, .int .i64 yq, .int .i64 lk2, .int .i64 tp2, .int .i64 bt2, .int .i64 sx2, .int .i64 sy2, .string ti2, .slice aC2 lenC2 capC2, .slice aH2 lenH2 capH2] 42)
    simpa using this
  have E1 := Lib.hid e1
  have E2 := Lib.hid e2
  clear e1 e2
  go_enter Try.func31, Try.ntmps31
  go_wp2_with fail
  refine (isScr_is wd ht x y lk tp bt sx sy ti aC lenC capC cs aH lenH capH hs _ _ HTI.out H0C.out HLC.out HNC.out H0H.out HLH.out HNH.out HZ.out HR1.out).mono ?_
  rintro e w1 ⟨rfl, hb1⟩
  have hz1 : w.heap.size + 2 ≤ w1.heap.size := by have := hb1.size; simp at this; omega
  have X1 := Lib.hid (box_below E1.out hb1 (by simp; omega))
  have Y1 := Lib.hid (box_below E2.out hb1 (by simp))
  have x1 := box_cells X1.out
  have y1 := box_cells Y1.out
  have B1 : Below w.heap.size w w1 := H0.out.trans (hb1.mono (by simp; omega))
  have C1 := Lib.hid (H0C.out.below hb1 (Nat.le_refl _))
  have D1 := Lib.hid (H0H.out.below hb1 (Nat.le_refl _))
  have C12 := Lib.hid (H0C2.out.below hb1 (Nat.le_refl _))
  have D12 := Lib.hid (H0H2.out.below hb1 (Nat.le_refl _))
  clear hb1 H0C H0H H0C2 H0H2 E1 E2 H0
  cases r1
  · obtain ⟨rfl, rfl⟩ := Prod.mk.inj HR.out
    go_wp2
    go_ret2
    exact ⟨rfl, B1⟩
  go_wp2_with fail
  refine (isScr_is wd2 ht2 xq yq lk2 tp2 bt2 sx2 sy2 ti2 aC2 lenC2 capC2 cs2 aH2 lenH2 capH2 hs2 _ _ HTI2.out C12.out HLC2.out HNC2.out D12.out HLH2.out HNH2.out HZ2.out HR2.out).mono ?_
  rintro e w2 ⟨rfl, hb2⟩
  have hz2 := hb2.size
  have X2 := Lib.hid (box_below X1.out hb2 (by omega))
  have Y2 := Lib.hid (box_below Y1.out hb2 (by omega))
  have x2 := box_cells X2.out
  have y2 := box_cells Y2.out
  have B2 : Below w.heap.size w w2 := B1.trans (hb2.mono (by omega))
  have C2 := Lib.hid (C1.out.below hb2 (Nat.le_refl _))
  have D2 := Lib.hid (D1.out.below hb2 (Nat.le_refl _))
  have C22 := Lib.hid (C12.out.below hb2 (Nat.le_refl _))
  have D22 := Lib.hid (D12.out.below hb2 (Nat.le_refl _))
  clear hb2 x1 y1 X1 Y1 C1 D1 C12 D12 B1
  cases r2
  · obtain ⟨rfl, rfl⟩ := Prod.mk.inj HR.out
    go_wp2
    go_ret2
    exact ⟨rfl, B2⟩
  replace HF : Hid (ScrFits wd ht x y lk tp bt sx sy ti cs hs) := by have h := HF.out; show ScrFits _ _ _ _ _ _ _ _ _ _ _ _; simpa using h
  replace HF2 : Hid (ScrFits wd2 ht2 xq yq lk2 tp2 bt2 sx2 sy2 ti2 cs2 hs2) := by have h := HF2.out; show ScrFits _ _ _ _ _ _ _ _ _ _ _ _; simpa using h
  have xd : ∀ i, w2.drew.cell? ⟨w.heap.size, i, none⟩ = (#[.int .i64 wd, .int .i64 ht, .int .i64 x, .int .i64 y, .int .i64 lk, .int .i64 tp, .int .i64 bt, .int .i64 sx, .int .i64 sy, .string ti, .slice aC lenC capC, .slice aH lenH capH] : Array Value)[i]? := x2
  have yd : ∀ i, w2.drew.cell? ⟨w.heap.size + 1, i, none⟩ = (#[.int .i64 wd2, .int .i64 ht2, .int .i64 xq, .int .i64 yq, .int .i64 lk2, .int .i64 tp2, .int .i64 bt2, .int .i64 sx2, .int .i64 sy2, .string ti2, .slice aC2 lenC2 capC2, .slice aH2 lenH2 capH2] : Array Value)[i]? := y2
  have Cd : At w2.drew aC (cellsV cs) := C2.out
  have Dd : At w2.drew aH (strs hs) := D2.out
  have Cd2 : At w2.drew aC2 (cellsV cs2) := C22.out
  have Dd2 : At w2.drew aH2 (strs hs2) := D22.out
  have tok : Hid True := trivial
  go_wp2_with fail
  go_region_held3 (fun w' => (∀ i, w'.cell? ⟨w.heap.size, i, none⟩ = (#[.int .i64 wd, .int .i64 ht, .int .i64 x, .int .i64 y, .int .i64 lk, .int .i64 tp, .int .i64 bt, .int .i64 sx, .int .i64 sy, .string ti, .slice aC lenC capC, .slice aH lenH capH] : Array Value)[i]?) ∧ (∀ i, w'.cell? ⟨w.heap.size + 1, i, none⟩ = (#[.int .i64 wd2, .int .i64 ht2, .int .i64 xq, .int .i64 yq, .int .i64 lk2, .int .i64 tp2, .int .i64 bt2, .int .i64 sx2, .int .i64 sy2, .string ti2, .slice aC2 lenC2 capC2, .slice aH2 lenH2 capH2] : Array Value)[i]?)) (first | with_reducible exact ⟨x4, y4⟩ | with_reducible exact ⟨x3, y3⟩ | exact ⟨xd, yd⟩ | fail)
    (first
    | (have _nd := hb3; go_at_call 71; refine (screenText_is wd2 ht2 xq yq lk2 tp2 bt2 sx2 sy2 ti2 aC2 lenC2 capC2 cs2 aH2 lenH2 capH2 hs2 l2 _ (Cd2.below hb3 (Nat.le_refl _)) (Dd2.below hb3 (Nat.le_refl _)) HCC2.out HLC2.out HLH2.out HF2.out HLL2.out).mono ?_; rintro e w4 ⟨rfl, hb4⟩; have hz4 := hb4.size; have x4 := cells_below x3 hb4 (by omega); have y4 := cells_below y3 hb4 (by omega); have B4 : Below w.heap.size w w4 := B3.trans (hb4.mono (by omega)))
    | (clear tok; go_at_call 71; refine (screenText_is wd ht x y lk tp bt sx sy ti aC lenC capC cs aH lenH capH hs l1 _ Cd Dd HCC.out HLC.out HLH.out HF.out HLL.out).mono ?_; rintro e w3 ⟨rfl, hb3⟩; have hb3' : Below w2.heap.size w2.drew w3 := hb3; have hz3 : w2.heap.size ≤ w3.heap.size := hb3'.size; have x3 := cells_below xd hb3' (by omega); have y3 := cells_below yd hb3' (by omega); have B3 : Below w.heap.size w w3 := B2.drew.trans (hb3'.mono (by omega)))
    | fail)
  rename_i hh0
  clear hh0 x2 y2 xd yd x3 y3 x4 y4
  obtain ⟨rfl, rfl⟩ := Prod.mk.inj HR.out
  go_wp2
  go_ret2
  exact ⟨rfl, B4⟩
end Go.Proofs.Ytfabclhcceooaaa
