/-
  Contracts of the small functions of l00 of the given program, and the walk of the law FnExactNameOK. No condition.
-/
import Derived.Test.YtfkpdinfoagfhaaDoorIn
namespace Go.Proofs.YtfkpdinfoagfhaaDoor
open Go.ChangeShapes Go.WideShapes Go.ChangeAt Go.RowKit
set_option linter.unusedVariables false

def letterB (c : Int) : Bool := decide (97 ≤ c) && decide (c ≤ 122) || decide (65 ≤ c) && decide (c ≤ 90) || decide (c = 95)
def digitB (c : Int) : Bool := decide (48 ≤ c) && decide (c ≤ 57)

def okAt (s : ByteArray) (i : Nat) : Bool := if h : i < s.size then letterB (s[i].toNat : Int) || (decide (0 < i) && digitB (s[i].toNat : Int)) else false
def nameB (s : ByteArray) : Bool := decide (1 ≤ s.size) && decide (s.size ≤ 40) && (List.range s.size).all (okAt s)
theorem okAt_eq {s : ByteArray} {k : Nat} (h : k < s.size) : okAt s k = (letterB (s[k].toNat : Int) || (decide (0 < k) && digitB (s[k].toNat : Int))) := by simp [okAt, h]
theorem nameB_false {s : ByteArray} {k : Nat} (h : k < s.size) (hk : okAt s k = false) : nameB s = false := by
  unfold nameB
  rw [List.all_eq_false.2 ⟨k, List.mem_range.2 h, by simp [hk]⟩]
  simp
theorem nameB_true {s : ByteArray} (h : ∀ j, j < s.size → okAt s j = true) : nameB s = (decide ((1 : Int) ≤ (s.size : Int)) && decide ((s.size : Int) ≤ 40)) := by
  unfold nameB
  rw [List.all_eq_true.2 (fun k hk => h k (List.mem_range.1 hk))]
  rw [Bool.eq_iff_iff]; simp; omega

theorem step_all {p : Nat → Bool} {k : Nat} (hk : p k = true) (h : ∀ j, j < k → p j = true) : ∀ j, j < k + 1 → p j = true := by
  intro j hj
  by_cases e : j = k
  · subst e; exact hk
  · exact h j (by omega)
end Go.Proofs.YtfkpdinfoagfhaaDoor
