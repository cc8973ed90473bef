/-
  Contract of screenText of the given program: the encoding of a valid screen. Conditions: the screen is valid.
-/
import Derived.Test.YtfdodbkopbmjeaaRowCells
import Derived.Deep.RegionHeld3
namespace Go.Proofs.Ytfdodbkopbmjeaa
open Go.ChangeShapes Go.WideShapes Go.ChangeAt Go.RowKit
set_option linter.unusedVariables false
set_option linter.unusedSimpArgs false
set_option maxRecDepth 100000

/-- what the walks of the two encodings need of a valid screen, in numbers -/
structure ScrNat (Wn Hn lenC lenH : Nat) (x y lk tp bt sx sy : Int) (ti : ByteArray) (cs : List (Int × Int)) (hs : List ByteArray) : Prop where
  w1 : Wn ≤ 24
  w2 : 2 ≤ Wn
  h1 : Hn ≤ 10
  fits : ScrFits (Wn : Int) (Hn : Int) x y lk tp bt sx sy ti cs hs
  cl : cs.length = lenC
  hl : hs.length = lenH
  cn : lenC = Wn * Hn
  hn : lenH ≤ 6
theorem row_fit {Wn Hn lenC k : Nat} (h : lenC = Wn * Hn) (hk : k < Hn) (hW : Wn ≤ 24) (hH : Hn ≤ 10) : k * Wn + Wn ≤ lenC ∧ lenC ≤ 240 := by
  have h1 : (k + 1) * Wn ≤ Hn * Wn := Nat.mul_le_mul_right _ hk
  have h2 : (k + 1) * Wn = k * Wn + Wn := Nat.succ_mul _ _
  have h3 : Hn * Wn = Wn * Hn := Nat.mul_comm _ _
  have h4 := Nat.mul_le_mul hW hH
  omega
def scrPre (Wn Hn : Nat) (x y lk tp bt sx sy : Int) (ti : ByteArray) (hs : List ByteArray) : List ByteArray := [⟨(numsB (scrNums Wn Hn x y lk tp bt sx sy)).toArray⟩, ti, ⟨(fieldsL hs).toArray⟩]
theorem scrStrs_pre (Wn Hn : Nat) (x y lk tp bt sx sy : Int) (ti : ByteArray) (cs : List (Int × Int)) (hs : List ByteArray) : scrStrs (Wn : Int) (Hn : Int) x y lk tp bt sx sy ti cs hs = scrPre Wn Hn x y lk tp bt sx sy ti hs ++ rowsL cs Wn Hn := by simp [scrStrs, scrPre]

end Go.Proofs.Ytfdodbkopbmjeaa
