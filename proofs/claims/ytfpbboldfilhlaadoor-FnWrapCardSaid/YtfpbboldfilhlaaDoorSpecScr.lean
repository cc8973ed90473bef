/-
  Contract of ScreenOK of the reference, and of ScreenOK of the given program. Conditions: bounds on lengths.
-/
import Derived.Test.YtfpbboldfilhlaaDoorScrPlain
namespace Go.Proofs.YtfpbboldfilhlaaDoor
open Go.ChangeShapes Go.WideShapes Go.ChangeAt Go.RowKit
set_option linter.unusedVariables false
set_option linter.unusedSimpArgs false
set_option maxRecDepth 100000

def tiAll (ti : ByteArray) : Bool := ti.data.toList.all chrOk
theorem scr_ac (a0 a1 a2 a3 a4 a5 a6 a7 a8 ta a9 a10 h c : Bool) : (a0 && a1 && a2 && a3 && a4 && a5 && a6 && a7 && (a8 && ta) && a9 && a10 && h && c) = (a0 && a1 && a2 && a3 && a4 && a5 && a6 && a7 && a8 && a10 && a9 && ta && c && h) := by
  ac_rfl
theorem all_no {α : Type} {p : α → Bool} {zs : List α} {k : Nat} (h : k < zs.length) (hc : p zs[k] = false) : zs.all p = false := by
  rw [Bool.eq_false_iff]
  intro ha
  have := List.all_eq_true.1 ha zs[k] (List.getElem_mem h)
  rw [hc] at this; cases this
theorem all_yes {α : Type} {p : α → Bool} {zs : List α} (h : ∀ j (hj : j < zs.length), p zs[j] = true) : zs.all p = true := by
  rw [List.all_eq_true]
  intro x hx
  obtain ⟨j, hj, rfl⟩ := List.getElem_of_mem hx
  exact h j hj
theorem chr_in (b : UInt8) : inR (b.toNat : Int) 32 126 = chrOk b := by
  rw [inR, chrOk, Bool.eq_iff_iff]; simp; omega
theorem ti_no {ti : ByteArray} {k : Nat} (h : k < ti.size) (hc : chrOk ti[k] = false) : tiAll ti = false :=
  all_no (zs := ti.data.toList) (k := k) (by rw [size_list]; exact h) (by rw [Array.getElem_toList]; exact hc)
theorem ti_yes {ti : ByteArray} (h : ∀ j (hj : j < ti.size), chrOk ti[j] = true) : tiAll ti = true :=
  all_yes fun j hj => by have := h j (by rw [size_list] at hj; exact hj); rw [Array.getElem_toList]; exact this

attribute [local irreducible] wpList
end Go.Proofs.YtfpbboldfilhlaaDoor
