/-
  Contracts of ScreenBytes of the given program and of its reference. Conditions: bounds on lengths.
-/
import Derived.Test.YtfdodbkopbmjeaaScrText2
namespace Go.Proofs.Ytfdodbkopbmjeaa
open Go.ChangeShapes Go.WideShapes Go.ChangeAt Go.RowKit
set_option linter.unusedVariables false
set_option linter.unusedSimpArgs false
set_option maxRecDepth 100000
attribute [local irreducible] wpList

theorem scr_nat (wd ht x y lk tp bt sx sy : Int) (ti : ByteArray) (Wn Hn : Nat) {lenC lenH : Nat} {cs : List (Int × Int)} {hs : List ByteArray} (h : ScrFits (Wn : Int) (Hn : Int) x y lk tp bt sx sy ti cs hs) (hlc : cs.length = lenC) (hlh : hs.length = lenH) : ScrNat Wn Hn lenC lenH x y lk tp bt sx sy ti cs hs := by
  have h1 := h.w0
  have h2 := h.w1
  have h3 := h.h0
  have h4 := h.h1
  refine ⟨by omega, by omega, by omega, h, hlc, hlh, ?_, hlh ▸ h.hs1⟩
  have := h.cl
  rw [hlc] at this
  exact_mod_cast this
def scrBR (wd ht x y lk tp bt sx sy : Int) (ti : ByteArray) (cs : List (Int × Int)) (hs : List ByteArray) : List UInt8 × Int := if scrB wd ht x y lk tp bt sx sy ti cs hs = true then (scrL wd ht x y lk tp bt sx sy ti cs hs, 0) else ([], 1)
theorem scrBR_le (wd ht x y lk tp bt sx sy : Int) (ti : ByteArray) (cs : List (Int × Int)) (hs : List ByteArray) : (scrBR wd ht x y lk tp bt sx sy ti cs hs).1.length ≤ 8000 := by
  unfold scrBR
  split
  · rename_i h; exact scrL_len wd ht x y lk tp bt sx sy ti (scrB_fits wd ht x y lk tp bt sx sy ti h)
  · simp

end Go.Proofs.Ytfdodbkopbmjeaa
