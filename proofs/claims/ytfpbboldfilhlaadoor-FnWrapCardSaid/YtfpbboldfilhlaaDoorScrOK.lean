/-
  Contracts of the small functions at screens: sizes, cells, slices.ContainsFunc at cells, and isScreen of the given program. Conditions: bounds on lengths.
-/
import Derived.Test.YtfpbboldfilhlaaDoorCells
import Derived.Test.YtfpbboldfilhlaaDoorAct
import Derived.Test.YtfpbboldfilhlaaDoorFields
namespace Go.Proofs.YtfpbboldfilhlaaDoor
open Go.ChangeShapes Go.WideShapes Go.ChangeAt Go.RowKit
set_option linter.unusedVariables false
set_option linter.unusedSimpArgs false
set_option maxRecDepth 20000

def sizeB (a b : Int) : Bool := inR a 2 24 && inR b 2 10
def cellB (c : Int × Int) : Bool := runeB c.1 && inR c.2 0 127
def histB (s : ByteArray) : Bool := decide (s.size ≤ 96)

theorem isSize_any (a b : Int) (w : World) :
    Calls Tryd.prog 9 #[.int .i64 a, .int .i64 b] w fun e w' => e = .returned (.bool (sizeB a b)) ∧ w = w' := by
  go_enter Tryd.func9, Tryd.ntmps9
  go_wp2_with (go_at_call 17; refine (with_val _ _ _ _ _ rfl).mono ?_; rintro e w' ⟨rfl, rfl⟩)
  all_goals go_ret
  all_goals exact ⟨ret_bool (by simp_all [sizeB]), rfl⟩
theorem isScreen1_any (x : ByteArray) (w : World) : Calls Tryd.prog 24 #[.string x] w fun e w' => e = .returned (.bool (!histB x)) ∧ w = w' := by
  go_enter Tryd.func24, Tryd.ntmps24
  go_wp2
  go_ret
  exact ⟨ret_bool (by rw [Bool.eq_iff_iff]; simp [histB] <;> omega), rfl⟩
theorem isScreen2_any (r l : Int) (w : World) : Calls Tryd.prog 26 #[.agg #[.int .i64 r, .int .i64 l]] w fun e w' => e = .returned (.bool (!cellB (r, l))) ∧ Below w.heap.size w w' := by
  go_enter Tryd.func26, Tryd.ntmps26
  go_wp2_with (first
    | (go_at_call 17; refine (with_val _ _ _ _ _ rfl).mono ?_; rintro e w' ⟨rfl, rfl⟩)
    | (go_at_call 27; refine (isRune_any _ _).mono ?_; rintro e w' ⟨rfl, rfl⟩))
  all_goals go_ret
  all_goals exact ⟨ret_bool (by simp_all [cellB]), (Below.refl _ _).alloc (Nat.le_refl _) _⟩
set_option maxHeartbeats 1000000 in
theorem indexFunc_cells (p : Int × Int → Bool) (f : Nat) (hcf : ∀ (a : Array Value) (w : World), (callFunc f a).run Tryd.prog w = .ok (.enter f a) w) (H : ∀ x y w, Calls Tryd.prog f #[.agg #[.int .i64 x, .int .i64 y]] w fun e w' => e = .returned (.bool (p (x, y))) ∧ Below w.heap.size w w')
    (ao : Option Addr) (n cap : Nat) (zs : List (Int × Int)) (w : World) (ha : At w ao (cellsV zs)) (hl : zs.length = n) (hn : n ≤ maxLen) :
    Calls Tryd.prog 42 #[.slice ao n cap, .func (.func f) #[] #[]] w fun e w' => e = .returned (.int .i64 (idxFrom p 0 zs)) ∧ Below w.heap.size w w' := by
  unfold maxLen at hn
  have HL : Hid (zs.length = n) := hl
  clear hl
  have HH := Lib.hid H
  clear H
  go_enter Tryd.func42, Tryd.ntmps42
  go_wp2
  go_loopw [8] (fun i wr => ∃ k : Nat, k ≤ n ∧ i = .int .i64 k ∧ Hid (∀ j (hj : j < zs.length), j < k → p zs[j] = false) ∧ Below w.heap.size w wr) (fun i _ => n - (intOf i).toNat)
  case atStart => exact ⟨0, Nat.zero_le _, rfl, fun j hj h => absurd h (by omega), Below.refl _ _⟩
  case round =>
    obtain ⟨k, hk, rfl, hall, hbel⟩ := hrel
    by_cases hlt : k < n
    · have hkz : k < zs.length := by have := HL.out; omega
      obtain ⟨b1, o1, rfl, c1, c2⟩ := (ha.below hbel (Nat.le_refl _)).cell2 hkz
      have i1 : (0 : Int) ≤ (k : Int) := by omega
      have i2 : (k : Int) < (n : Int) := by omega
      clear ha
      obtain ⟨r, hr⟩ : ∃ r, zs[k].1 = r := ⟨_, rfl⟩
      obtain ⟨s, hs⟩ : ∃ s, zs[k].2 = s := ⟨_, rfl⟩
      rw [hr] at c1
      rw [hs] at c2
      have HRS : Hid (zs[k] = (r, s)) := by show zs[k] = (r, s); rw [← hr, ← hs]
      clear hr hs
      cases hp : p (r, s)
      · have HP := Lib.hid hp
        clear hp
        go_wp2_with (refine (HH.out _ _ _).mono ?_; rw [HP.out]; rintro e w' ⟨rfl, hb1⟩; have hb2 : Below w.heap.size w w' := hbel.trans (hb1.mono hbel.size))
        go_roundw
        case rel => exact ⟨k + 1, by omega, by go_num, fun j hj h => if e : j = k then (by subst e; rw [HRS.out]; exact HP.out) else hall.out j hj (by omega), hb2⟩
        case measure => simp [intOf]; omega
      · have HP := Lib.hid hp
        clear hp
        go_wp2_with (refine (HH.out _ _ _).mono ?_; rw [HP.out]; rintro e w' ⟨rfl, hb1⟩; have hb2 : Below w.heap.size w w' := hbel.trans (hb1.mono hbel.size))
        go_ret
        exact ⟨ret_int (by rw [idxFrom_at p zs 0 k hkz (fun j hj => hall.out j (by omega) hj) (by rw [HRS.out]; exact HP.out)]; simp), hb2⟩
    · go_wp2
      go_ret
      exact ⟨ret_int (by rw [idxFrom_none p zs 0 (fun x hx => by
        obtain ⟨j, hj, rfl⟩ := List.getElem_of_mem hx
        exact hall.out j hj (by have := HL.out; omega))]), hbel⟩
theorem containsFunc_cells (p : Int × Int → Bool) (f : Nat) (hcf : ∀ (a : Array Value) (w : World), (callFunc f a).run Tryd.prog w = .ok (.enter f a) w) (H : ∀ x y w, Calls Tryd.prog f #[.agg #[.int .i64 x, .int .i64 y]] w fun e w' => e = .returned (.bool (p (x, y))) ∧ Below w.heap.size w w')
    (ao : Option Addr) (n cap : Nat) (zs : List (Int × Int)) (w : World) (ha : At w ao (cellsV zs)) (hl : zs.length = n) (hn : n ≤ maxLen) :
    Calls Tryd.prog 25 #[.slice ao n cap, .func (.func f) #[] #[]] w fun e w' => e = .returned (.bool (zs.any p)) ∧ Below w.heap.size w w' := by
  have HI := Lib.hid (indexFunc_cells p f hcf H ao n cap zs w ha hl hn)
  clear hl H hcf
  go_enter Tryd.func25, Tryd.ntmps25
  go_wp2_with (go_at_call 42; refine HI.out.mono ?_; rintro e w' ⟨rfl, hb1⟩)
  go_ret
  exact ⟨ret_bool (idxFrom_any p zs 0), hb1⟩
end Go.Proofs.YtfpbboldfilhlaaDoor
