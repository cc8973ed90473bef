/-
  The bytes of a row's runes, and what is left of them without the blanks at the end. No program in sight. No condition.
-/
import Derived.Test.YtfpbboldfilhlaaDoorBase
import Derived.Lib.RuneBytes
import Derived.Lib.SlTrimSet
namespace Go.Proofs.YtfpbboldfilhlaaDoor
open Go.RowKit
set_option linter.unusedVariables false
set_option linter.unusedSimpArgs false
def runesB (rs : List Int) : List UInt8 := rs.flatMap Lib.encodeRune
/-- a rune that a cell may hold -/
def okR (r : Int) : Prop := 32 ≤ r ∧ r ≤ 1114111 ∧ ¬ (55296 ≤ r ∧ r ≤ 57343)
theorem runesB_append (a b : List Int) : runesB (a ++ b) = runesB a ++ runesB b := by simp [runesB]
theorem runesB_length : ∀ rs : List Int, (runesB rs).length ≤ 4 * rs.length
  | [] => by simp [runesB]
  | r :: rs => by
    have h1 := runesB_length rs
    have h2 := (Lib.encodeRuneZ_length r).2
    have h3 : (Lib.encodeRune r).length = (Lib.encodeRuneZ r).length := by simp [Lib.encodeRune]
    have e : runesB (r :: rs) = Lib.encodeRune r ++ runesB rs := by simp [runesB]
    rw [e, List.length_append, List.length_cons]; omega
theorem trimB_blank (l : List UInt8) : Lib.trimRightB (l ++ [32]) 32 = Lib.trimRightB l 32 := by
  simp [Lib.trimRightB]
theorem trimB_other (l : List UInt8) (c : UInt8) (h : c ≠ 32) : Lib.trimRightB (l ++ [c]) 32 = l ++ [c] := by
  simp [Lib.trimRightB, List.dropWhile_cons, h]
theorem trimB_len (l : List UInt8) : (Lib.trimRightB l 32).length ≤ l.length := by
  unfold Lib.trimRightB
  have h := (List.dropWhile_suffix (l := l.reverse) (fun x : UInt8 => x == 32)).length_le
  rw [List.length_reverse] at h ⊢
  exact h
theorem toUInt8_ne {x : Int} (h0 : 0 ≤ x) (h1 : x < 256) (h : x ≠ 32) : x.toNat.toUInt8 ≠ 32 := by
  intro e
  have := congrArg UInt8.toNat e
  simp at this
  omega
theorem encode_last {r : Int} (hr : okR r) (hne : r ≠ 32) : ∃ l c, Lib.encodeRune r = l ++ [c] ∧ c ≠ 32 := by
  obtain ⟨h1, h2, h3⟩ := hr
  by_cases a : r ≤ 127
  · exact ⟨[], r.toNat.toUInt8, by simp [Lib.encodeRune, Lib.encodeRuneZ_one (show 0 ≤ r by omega) a], toUInt8_ne (by omega) (by omega) hne⟩
  · have k : ∀ x : Int, (128 + x % 64).toNat.toUInt8 ≠ 32 := fun x => toUInt8_ne (by omega) (by omega) (by omega)
    by_cases b : r ≤ 2047
    · exact ⟨[(192 + r / 64).toNat.toUInt8], _, by simp [Lib.encodeRune, Lib.encodeRuneZ_two (show 128 ≤ r by omega) b], k r⟩
    · by_cases c : r ≤ 65535
      · exact ⟨[(224 + r / 4096).toNat.toUInt8, (128 + r / 64 % 64).toNat.toUInt8], _, by simp [Lib.encodeRune, Lib.encodeRuneZ_three (r := r) (by omega)], k r⟩
      · exact ⟨[(240 + r / 262144).toNat.toUInt8, (128 + r / 4096 % 64).toNat.toUInt8, (128 + r / 64 % 64).toNat.toUInt8], _, by simp [Lib.encodeRune, Lib.encodeRuneZ_four (r := r) (by omega) h2], k r⟩
theorem encode_blank : Lib.encodeRune 32 = [32] := by decide
theorem trim_rune {l : List UInt8} {r : Int} (hr : okR r) (hne : r ≠ 32) : Lib.trimRightB (l ++ Lib.encodeRune r) 32 = l ++ Lib.encodeRune r := by
  obtain ⟨a, c, e, hc⟩ := encode_last hr hne
  rw [e, ← List.append_assoc]
  exact trimB_other _ _ hc
/-- the text of a row -/
def rowT (rs : List Int) : List UInt8 := Lib.trimRightB (runesB rs) 32
/-- the reference's end: where the last rune that is no blank ends -/
def endR : List Int → Nat → Nat
  | rs, 0 => 0
  | rs, k + 1 => if rs[k]? = some 32 then endR rs k else (runesB (rs.take (k + 1))).length
theorem endR_spec {rs : List Int} (h : ∀ r ∈ rs, okR r) : ∀ k, k ≤ rs.length → endR rs k ≤ (runesB (rs.take k)).length ∧ (runesB (rs.take k)).take (endR rs k) = rowT (rs.take k)
  | 0, _ => by simp [endR, runesB, rowT, Lib.trimRightB]
  | k + 1, hk => by
    obtain ⟨h1, h2⟩ := endR_spec h k (by omega)
    obtain ⟨r, hr⟩ : ∃ r, rs[k]? = some r := ⟨rs[k]'(by omega), List.getElem?_eq_getElem _⟩
    have e : runesB (rs.take (k + 1)) = runesB (rs.take k) ++ Lib.encodeRune r := by
      rw [List.take_add_one, hr, runesB_append]; simp [runesB]
    by_cases h32 : r = 32
    · subst h32
      have e2 : endR rs (k + 1) = endR rs k := by simp [endR, hr]
      rw [e2, rowT, e, encode_blank, trimB_blank]
      refine ⟨by rw [List.length_append]; omega, ?_⟩
      rw [List.take_append_of_le_length h1]
      exact h2
    · have e2 : endR rs (k + 1) = (runesB (rs.take (k + 1))).length := by simp [endR, hr, h32]
      rw [e2]
      refine ⟨Nat.le_refl _, ?_⟩
      rw [List.take_length, rowT, e, trim_rune (h r (List.mem_of_getElem? hr)) h32]
end Go.Proofs.YtfpbboldfilhlaaDoor
