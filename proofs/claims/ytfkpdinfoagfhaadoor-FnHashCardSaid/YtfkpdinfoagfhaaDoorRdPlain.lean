/-
  Reading hexadecimal digits, in plain words: of both cases (as a library reads them) and of small letters alone, and when both agree. No program in sight. No condition.
-/
import Derived.Test.YtfkpdinfoagfhaaDoorHex
namespace Go.Proofs.YtfkpdinfoagfhaaDoor
open Go.ChangeShapes Go.WideShapes Go.ChangeAt Go.RowKit
set_option linter.unusedVariables false

/-- the value of a digit, small letters alone; 255: none -/
def nibV (c : UInt8) : Nat := if 48 ≤ c.toNat ∧ c.toNat ≤ 57 then c.toNat - 48 else if 97 ≤ c.toNat ∧ c.toNat ≤ 102 then c.toNat - 87 else 255
/-- a letter made small -/
def lowV (c : UInt8) : Nat := c.toNat ||| 32
/-- the value of a digit, letters of both cases; 16 and more: none -/
def dgV (c : UInt8) : Nat := if 48 ≤ c.toNat ∧ c.toNat ≤ 57 then c.toNat - 48 else if 97 ≤ lowV c ∧ lowV c ≤ 122 then lowV c - 87 else 255
theorem byte_all (P : Nat → Prop) (h : ∀ n, n < 256 → P n) (c : UInt8) : P c.toNat := h _ c.toNat_lt
def nibN (n : Nat) : Nat := if 48 ≤ n ∧ n ≤ 57 then n - 48 else if 97 ≤ n ∧ n ≤ 102 then n - 87 else 255
def dgN (n : Nat) : Nat := if 48 ≤ n ∧ n ≤ 57 then n - 48 else if 97 ≤ (n ||| 32) ∧ (n ||| 32) ≤ 122 then (n ||| 32) - 87 else 255
theorem nib_facts (c : UInt8) (h : nibV c < 16) : dgV c = nibV c ∧ dig (nibV c) = c := by
  have H : ∀ n, n < 256 → nibN n < 16 → dgN n = nibN n ∧ (dig (nibN n)).toNat = n := by decide +kernel
  have := H c.toNat c.toNat_lt h
  exact ⟨this.1, UInt8.toNat_inj.1 this.2⟩
theorem dg_facts (c : UInt8) (h : dgV c < 16) (hd : dig (dgV c) = c) : nibV c < 16 := by
  have H : ∀ n, n < 256 → dgN n < 16 → (dig (dgN n)).toNat = n → nibN n < 16 := by decide +kernel
  exact H c.toNat c.toNat_lt h (congrArg UInt8.toNat hd)

/-- so many bytes out of digits -/
def decN (f : UInt8 → Nat) (l : List UInt8) (n : Nat) : List UInt8 := (List.range n).map fun i => UInt8.ofNat (16 * f (l.getD (2 * i) 0) + f (l.getD (2 * i + 1) 0))
theorem length_decN (f : UInt8 → Nat) (l : List UInt8) (n : Nat) : (decN f l n).length = n := by simp [decN]
theorem decN_succ (f : UInt8 → Nat) (l : List UInt8) (n : Nat) : decN f l (n + 1) = decN f l n ++ [UInt8.ofNat (16 * f (l.getD (2 * n) 0) + f (l.getD (2 * n + 1) 0))] := by simp [decN, List.range_succ]
/-- the first digits are digits -/
def okN (f : UInt8 → Nat) (l : List UInt8) (n : Nat) : Prop := ∀ i, i < n → f (l.getD i 0) < 16
theorem ofNat_small {x : Nat} (h : x < 256) : (UInt8.ofNat x).toNat = x := by simp; omega
theorem hex_decN (f : UInt8 → Nat) (l : List UInt8) : ∀ n, okN f l (2 * n) → hexOf (decN f l n) = (List.range (2 * n)).map fun i => dig (f (l.getD i 0))
  | 0, _ => rfl
  | n + 1, h => by
    have h0 := h (2 * n) (by omega)
    have h1 := h (2 * n + 1) (by omega)
    have e : (UInt8.ofNat (16 * f (l.getD (2 * n) 0) + f (l.getD (2 * n + 1) 0))).toNat = 16 * f (l.getD (2 * n) 0) + f (l.getD (2 * n + 1) 0) := ofNat_small (by omega)
    rw [decN_succ, hexOf, List.flatMap_append, ← hexOf, hex_decN f l n (fun i hi => h i (by omega)), show 2 * (n + 1) = 2 * n + 1 + 1 from by omega, List.range_succ, List.range_succ, List.map_append, List.map_append, List.append_assoc]
    congr 1
    simp only [List.flatMap_cons, List.flatMap_nil, List.append_nil, List.map_cons, List.map_nil, e]
    rw [show (16 * f (l.getD (2 * n) 0) + f (l.getD (2 * n + 1) 0)) / 16 = f (l.getD (2 * n) 0) from by omega, show (16 * f (l.getD (2 * n) 0) + f (l.getD (2 * n + 1) 0)) % 16 = f (l.getD (2 * n + 1) 0) from by omega]
    rfl
theorem range_getD (l : List UInt8) (g : UInt8 → UInt8) : (List.range l.length).map (fun i => g (l.getD i 0)) = l.map g := by
  apply List.ext_getElem
  · simp
  · intro i h1 h2
    have hi : i < l.length := by simpa using h1
    simp [List.getD_eq_getElem?_getD, List.getElem?_eq_getElem hi]
theorem bytes_get' (b : ByteArray) {p : Nat} (h : p < b.size) : b.data.toList.getD p 0 = b[p] := by
  have h' : p < b.data.toList.length := by rw [Array.length_toList]; exact h
  rw [List.getD_eq_getElem?_getD, List.getElem?_eq_getElem h']; rfl
/-- all digits small -/
def smallB (l : List UInt8) : Bool := l.all fun c => decide (nibV c < 16)
theorem smallB_ok {l : List UInt8} (h : smallB l = true) : okN nibV l l.length := by
  intro i hi
  unfold smallB at h
  rw [List.getD_eq_getElem?_getD, List.getElem?_eq_getElem hi]
  exact of_decide_eq_true (List.all_eq_true.1 h _ (List.getElem_mem hi))
theorem smallB_of {l : List UInt8} (h : okN nibV l l.length) : smallB l = true := by
  unfold smallB
  rw [List.all_eq_true]
  intro c hc
  obtain ⟨i, hi, rfl⟩ := List.getElem_of_mem hc
  have := h i hi
  rw [List.getD_eq_getElem?_getD, List.getElem?_eq_getElem hi] at this
  exact decide_eq_true this
theorem smallB_dg {l : List UInt8} (h : smallB l = true) : okN dgV l l.length ∧ ∀ n, decN dgV l n = decN nibV l n ∨ l.length < 2 * n := by
  have hk := smallB_ok h
  refine ⟨fun i hi => by rw [(nib_facts _ (hk i hi)).1]; exact hk i hi, fun n => ?_⟩
  by_cases hn : l.length < 2 * n
  · exact .inr hn
  · refine .inl ?_
    unfold decN
    apply List.map_congr_left
    intro i hi
    have hi' := List.mem_range.1 hi
    rw [(nib_facts _ (hk (2 * i) (by omega))).1, (nib_facts _ (hk (2 * i + 1) (by omega))).1]
/-- the digits written again are the text just when all are small -/
theorem hex_again {l : List UInt8} {n : Nat} (hl : l.length = 2 * n) (h : okN dgV l (2 * n)) : hexOf (decN dgV l n) = l ↔ smallB l = true := by
  rw [hex_decN dgV l n h, ← hl, range_getD l fun c => dig (dgV c)]
  constructor
  · intro he
    refine smallB_of fun i hi => dg_facts _ (h i (by omega)) ?_
    have := congrArg (fun m : List UInt8 => m[i]?) he
    simp only [List.getElem?_map, List.getElem?_eq_getElem hi, Option.map_some, Option.some.injEq] at this
    rw [List.getD_eq_getElem?_getD, List.getElem?_eq_getElem hi]
    exact this
  · intro hs
    have hk := smallB_ok hs
    conv => rhs; rw [← List.map_id l]
    apply List.map_congr_left
    intro c hc
    obtain ⟨i, hi, rfl⟩ := List.getElem_of_mem hc
    have := hk i hi
    rw [List.getD_eq_getElem?_getD, List.getElem?_eq_getElem hi] at this
    simp only [Option.getD_some] at this
    have hf := nib_facts _ this
    show dig (dgV l[i]) = l[i]
    rw [hf.1]; exact hf.2
/-- what ReadHash tells -/
def readHashR (t : ByteArray) : ByteArray × Int :=
  if 65536 < t.size then (⟨#[]⟩, 2) else if t.size ≠ 64 then (⟨#[]⟩, 3) else if smallB t.data.toList = true then (⟨(decN nibV t.data.toList 32).toArray⟩, 0) else (⟨#[]⟩, 3)
end Go.Proofs.YtfkpdinfoagfhaaDoor
