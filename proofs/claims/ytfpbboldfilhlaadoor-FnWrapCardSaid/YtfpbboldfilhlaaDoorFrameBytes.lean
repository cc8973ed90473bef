/-
  Contracts of the given program's FrameBytes and of its reference, and of what they call. Conditions: bounds on what is handed in.
-/
import Derived.Test.YtfpbboldfilhlaaDoorNumbers
import Derived.Test.YtfpbboldfilhlaaDoorCrc
import Derived.Lib.AppendStr
namespace Go.Proofs.YtfpbboldfilhlaaDoor
open Go.ChangeShapes Go.WideShapes Go.ChangeAt Go.RowKit
set_option linter.unusedVariables false
set_option maxRecDepth 20000

/-- a frame: how long it is, the sum, the data -/
def frameL (d : List UInt8) : List UInt8 := bigL d.length 3 ++ bigL (crc (bigL d.length 3 ++ d)) 4 ++ d
theorem length_frameL (d : List UInt8) : (frameL d).length = 3 + 4 + d.length := by simp [frameL, length_bigL] <;> omega
def frameR (d : List UInt8) : List UInt8 × Int := if 65536 < d.length then ([], 2) else if d.length = 0 then ([], 4) else (frameL d, 0)
theorem frameR_le (d : List UInt8) : (frameR d).1.length ≤ 1048576 := by
  unfold frameR
  split
  · simp
  · split
    · simp
    · simp only [length_frameL]; omega
theorem crc_lt (l : List UInt8) : crc l ≤ 4294967295 := by
  have h : crcL l < 2 ^ 32 := crcL_lt l
  have : crc l < 2 ^ 32 := Nat.xor_lt_two_pow h (by decide)
  omega
theorem app_list (h : List UInt8) (s : ByteArray) : ((⟨h.toArray⟩ : ByteArray) ++ s).data.toList = h ++ s.data.toList := by simp [ByteArray.data_append]

theorem size_bigL (n c : Nat) : (⟨(bigL n c).toArray⟩ : ByteArray).size = c := by
  show (bigL n c).toArray.size = c
  rw [List.size_toArray, length_bigL]

theorem own_slice {w : World} {B e n : Nat} {v : Value} {xs : List Value} (h : w.ownsRow B e 1 v n xs) (hn : 0 < n) : ∃ g cap, v = .slice (some ⟨g, 0, none⟩) n cap := by
  rcases h.2 with ⟨_, h0⟩ | ⟨g, cap, cur, hv, _⟩
  · omega
  · exact ⟨g, cap, hv⟩

end Go.Proofs.YtfpbboldfilhlaaDoor
