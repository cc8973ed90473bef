/-
  Contracts of the given program's turned (with RotateLeft32 of math/bits) and of the reference's l01Turn: both turn a word right. Conditions: a word, a count from 1 to 31.
-/
import Derived.Test.YtfkpdinfoagfhaaDoorSha
import Derived.Test.YtfkpdinfoagfhaaDoorIn
import Derived.Laws.BitsAllLaws
namespace Go.Proofs.YtfkpdinfoagfhaaDoor
open Go.ChangeShapes Go.WideShapes Go.ChangeAt Go.RowKit
set_option linter.unusedVariables false
set_option linter.unusedSimpArgs false

theorem mul_pow_mod {x m : Nat} : ((x : Int) * 2 ^ m % 4294967296) = ((x * 2 ^ m % 4294967296 : Nat) : Int) := by simp
theorem div_pow {x m : Nat} : ((x : Int) / 2 ^ m) = ((x / 2 ^ m : Nat) : Int) := by simp
theorem shl_lt (x m : Nat) : x * 2 ^ m % 4294967296 < 4294967296 := Nat.mod_lt _ (by decide)
theorem shr_lt {x : Nat} (m : Nat) (h : x < 4294967296) : x / 2 ^ m < 4294967296 := Nat.lt_of_le_of_lt (Nat.div_le_self _ _) h
theorem rotate_any (x n : Nat) (w : World) (hx : x < 4294967296) (h1 : 1 ≤ n) (h2 : n ≤ 31) :
    Calls Tryd.prog 66 #[.int .u32 x, .int .i64 (-(n : Int))] w fun e w' => e = .returned (.int .u32 (rotr x n)) ∧ w = w' := by
  obtain ⟨m, hm, hm1⟩ : ∃ m, 32 - n = m ∧ m ≤ 31 := ⟨_, rfl, by omega⟩
  have hA : bits .and .u64 (IntKind.u64.wrap (-(n : Int))) 31 = (m : Int) := by
    have e : IntKind.u64.wrap (-(n : Int)) = ((18446744073709551616 - n : Nat) : Int) := by rw [IntKind.wrap_u64]; omega
    rw [e, show (31 : Int) = ((31 : Nat) : Int) from rfl, u64_and_nat _ _ (by omega) (by omega), nat_mask5, ← hm]
    omega
  have hn : n = 32 - m := by omega
  have hR : Hid (bits BinOp.or IntKind.u32 ((x : Int) * 2 ^ m % 4294967296) ((x : Int) / 2 ^ (32 - m)) = (rotr x n : Int)) := by
    show _ = _
    rw [mul_pow_mod, div_pow, u32_or_nat _ _ (shl_lt _ _) (shr_lt _ hx), rotr, ← hm, show 32 - (32 - n) = n from by omega]
  clear hm hn
  go_enter Tryd.func66, Tryd.ntmps66
  go_wp2
  go_ret
  exact ⟨congrArg (fun z => Ending.returned (Value.int .u32 z)) hR.out, rfl⟩
theorem turned_any (x n : Nat) (w : World) (hx : x < 4294967296) (h1 : 1 ≤ n) (h2 : n ≤ 31) :
    Calls Tryd.prog 53 #[.int .u32 x, .int .i64 n] w fun e w' => e = .returned (.int .u32 (rotr x n)) ∧ w = w' := by
  have hw : IntKind.i64.wrap (-(n : Int)) = -(n : Int) := by rw [IntKind.wrap_i64]; omega
  have hR := fun w => rotate_any x n w hx h1 h2
  generalize rotr x n = r at *
  go_enter Tryd.func53, Tryd.ntmps53
  go_wp2_with (go_at_call 66; refine (hR _).mono ?_; rintro e w' ⟨rfl, rfl⟩)
  go_ret
  exact ⟨rfl, rfl⟩
theorem l01Turn_any (x n : Nat) (w : World) (hx : x < 4294967296) (h1 : 1 ≤ n) (h2 : n ≤ 31) :
    Calls Tryd.prog 46 #[.int .u32 x, .int .u64 n] w fun e w' => e = .returned (.int .u32 (rotr x n)) ∧ w = w' := by
  have hR : Hid (bits BinOp.or IntKind.u32 ((x : Int) / 2 ^ n) ((x : Int) * 2 ^ (32 - n) % 4294967296) = (rotr x n : Int)) := by
    show _ = _
    rw [mul_pow_mod, div_pow, u32_or_nat _ _ (shr_lt _ hx) (shl_lt _ _), rotr, Nat.or_comm]
  go_enter Tryd.func46, Tryd.ntmps46
  go_wp2
  go_ret
  exact ⟨congrArg (fun z => Ending.returned (Value.int .u32 z)) hR.out, rfl⟩

/-- words in the cells of a block, from a cell on; none is frozen -/
def Wd (w : World) (b o : Nat) (l : List Nat) : Prop := ∀ i, i < l.length → w.cell? ⟨b, o + i, none⟩ = some (.int .u32 (l.getD i 0 : Nat)) ∧ w.frozen? ⟨b, o + i, none⟩ = false
theorem cell_congr {w w' : World} {b : Nat} (h : w'.heap[b]? = w.heap[b]?) (i : Nat) : w'.cell? ⟨b, i, none⟩ = w.cell? ⟨b, i, none⟩ := by simp [World.cell?, h]
theorem frozen_congr {w w' : World} {b : Nat} (h : w'.heap[b]? = w.heap[b]?) (i : Nat) : w'.frozen? ⟨b, i, none⟩ = w.frozen? ⟨b, i, none⟩ := by simp [World.frozen?, h]
theorem Wd.congr {w w' : World} {b o : Nat} {l : List Nat} (h : Wd w b o l) (hb : w'.heap[b]? = w.heap[b]?) : Wd w' b o l := fun i hi => by
  rw [cell_congr hb, frozen_congr hb]; exact h i hi
theorem Wd.below {C : Nat} {w w' : World} {b o : Nat} {l : List Nat} (h : Wd w b o l) (hb : Below C w w') (hC : b < C) : Wd w' b o l := h.congr (hb.block b hC)
theorem Wd.drew {w : World} {b o : Nat} {l : List Nat} (h : Wd w b o l) : Wd w.drew b o l := h
theorem Wd.set_ne {w : World} {b o : Nat} {l : List Nat} (h : Wd w b o l) {a : Addr} (v : Value) (hne : b ≠ a.block) : Wd (w.setCell a v) b o l := h.congr (Below.heap_setCell _ _ _ _ hne)
theorem Wd.set {w : World} {b o : Nat} {l : List Nat} (h : Wd w b o l) (k x : Nat) (hk : k < l.length) : Wd (w.setCell ⟨b, o + k, none⟩ (.int .u32 (x : Int))) b o (l.set k x) := by
  intro i hi
  rw [List.length_set] at hi
  obtain ⟨h1, h2⟩ := h i hi
  refine ⟨?_, by rw [World.frozen?_setCell]; exact h2⟩
  obtain ⟨cs, t, fr, hh⟩ : ∃ cs t fr, w.heap[b]? = some (.cells cs t fr) := by
    simp only [World.cell?] at h1
    split at h1
    · rename_i c t f he; exact ⟨c, t, f, he⟩
    · cases h1
  have hc : ∀ j, j < l.length → cs[o + j]? = some (.int .u32 (l.getD j 0 : Nat)) := fun j hj => by have := (h j hj).1; simpa [World.cell?, hh] using this
  have hh' : (w.setCell ⟨b, o + k, none⟩ (.int .u32 (x : Int))).heap[b]? = some (.cells (cs.setIfInBounds (o + k) (.int .u32 (x : Int))) t fr) := by
    simp [World.setCell, Array.getElem?_modify, hh]
  have hlt : o + k < cs.size := (Array.getElem?_eq_some_iff.1 (hc k hk)).1
  simp only [World.cell?, hh', Array.getElem?_setIfInBounds]
  by_cases he : k = i
  · subst he
    simp [hlt, List.getD_eq_getElem?_getD, List.getElem?_set, hk]
  · have hne : ¬ o + k = o + i := by omega
    simp [he, hne, hc i hi, List.getD_eq_getElem?_getD, List.getElem?_set]
theorem wd_block {w : World} {b : Nat} {cs : Array Value} {t : TypeId} {l : List Nat} (h : w.heap[b]? = some (.cells cs t (0, 0))) (hl : cs.toList = l.map (fun x : Nat => Value.int .u32 (x : Int))) : Wd w b 0 l := by
  intro i hi
  have hc : cs[i]? = some (.int .u32 (l.getD i 0 : Nat)) := by
    rw [← Array.getElem?_toList, hl, List.getElem?_map, List.getElem?_eq_getElem hi, List.getD_eq_getElem?_getD, List.getElem?_eq_getElem hi]; rfl
  refine ⟨?_, ?_⟩
  · rw [Nat.zero_add]; simp [World.cell?, h, hc]
  · rw [Nat.zero_add]; simp [World.frozen?, h]
theorem still_eq {P : Program} {f : FuncId} {args : Array Value} {w : World} {v : Value} (h : Calls P f args w fun e w' => e = .returned v ∧ w = w') : Calls P f args w fun e w' => e = .returned v ∧ w' = w :=
  h.mono fun _ _ ⟨he, hm⟩ => ⟨he, hm.symm⟩
end Go.Proofs.YtfkpdinfoagfhaaDoor
