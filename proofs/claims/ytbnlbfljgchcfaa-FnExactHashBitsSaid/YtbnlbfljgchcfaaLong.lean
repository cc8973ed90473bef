/-
  Contracts of slices.IndexFunc and slices.ContainsFunc at numbers, and of isLong of the given program. No condition.
-/
import Derived.Test.YtbnlbfljgchcfaaL00
namespace Go.Proofs.Ytbnlbfljgchcfaa
open Go.ChangeShapes Go.WideShapes Go.ChangeAt Go.RowKit
set_option linter.unusedVariables false

/-- the place of the first that has a property, from a place on; -1 if none has -/
def idxFrom {α : Type} (p : α → Bool) : Nat → List α → Int
  | _, [] => -1
  | k, x :: l => if p x then (k : Int) else idxFrom p (k + 1) l
theorem idxFrom_none {α : Type} (p : α → Bool) (l : List α) : ∀ k, (∀ x ∈ l, p x = false) → idxFrom p k l = -1 := by
  induction l with
  | nil => intro k _; rfl
  | cons a l ih => intro k h; rw [idxFrom, if_neg (by rw [h a (by simp)]; simp), ih (k + 1) (fun x hx => h x (by simp [hx]))]
theorem idxFrom_at {α : Type} (p : α → Bool) (l : List α) : ∀ (k i : Nat) (h : i < l.length), (∀ j (hj : j < i), p (l[j]'(by omega)) = false) → p l[i] = true → idxFrom p k l = ((k + i : Nat) : Int) := by
  induction l with
  | nil => intro k i h; simp at h
  | cons a l ih =>
    intro k i h hn hp
    cases i with
    | zero => rw [idxFrom, if_pos (by simpa using hp)]; rfl
    | succ i =>
      rw [idxFrom, if_neg (by have := hn 0 (by omega); simp at this; simp [this]), ih (k + 1) i (by simpa using h) (fun j hj => by have := hn (j + 1) (by omega); simpa using this) (by simpa using hp)]
      omega
theorem idxFrom_any {α : Type} (p : α → Bool) (l : List α) : ∀ k, decide (0 ≤ idxFrom p k l) = l.any p := by
  induction l with
  | nil => intro k; rfl
  | cons a l ih =>
    intro k
    rw [idxFrom]
    by_cases h : p a = true
    · rw [if_pos h]; simp [h]
    · rw [if_neg h, ih]; simp [h]

set_option maxHeartbeats 400000 in
theorem indexFunc_ints (p : Int → Bool) (f : Nat) (hcf : ∀ (a : Array Value) (w : World), (callFunc f a).run Try.prog w = .ok (.enter f a) w) (H : ∀ x w, Calls Try.prog f #[.int .i64 x] w fun e w' => e = .returned (.bool (p x)) ∧ w = w')
    (ao : Option Addr) (n cap : Nat) (zs : List Int) (w : World) (ha : At w ao (i64s zs)) (hl : zs.length = n) (hn : n ≤ maxLen) :
    Calls Try.prog 27 #[.slice ao n cap, .func (.func f) #[] #[]] w fun e w' => e = .returned (.int .i64 (idxFrom p 0 zs)) ∧ w = w' := by
  unfold maxLen at hn
  have HL : Hid (zs.length = n) := hl
  clear hl
  have HH := Lib.hid H
  clear H
  go_enter Try.func27, Try.ntmps27
  go_wp2
  go_loop [8] (fun i => ∃ k : Nat, k ≤ n ∧ i = .int .i64 k ∧ Hid (∀ j (hj : j < zs.length), j < k → p zs[j] = false)) (fun i => n - (intOf i).toNat)
  case atStart => exact ⟨0, Nat.zero_le _, rfl, fun j hj h => absurd h (by omega)⟩
  case round =>
    obtain ⟨k, hk, rfl, hall⟩ := hrel
    by_cases hlt : k < n
    · have hkz : k < zs.length := by have := HL.out; omega
      obtain ⟨b, off, rfl, hc⟩ := ha.get (by intro h; simp [i64s] at h; simp [h] at hkz)
      have hcell : w.cell? ⟨b, off + k, none⟩ = some (.int .i64 zs[k]) := by rw [hc k (by simpa [i64s] using hkz)]; simp [i64s]
      clear hc
      cases hp : p zs[k]
      · go_wp2_with (refine (HH.out _ _).mono ?_; rintro e w' ⟨rfl, rfl⟩)
        go_round
        case rel => exact ⟨k + 1, by omega, by go_num, fun j hj h => if e : j = k then (by subst e; exact hp) else hall.out j hj (by omega)⟩
        case measure => simp [intOf]; omega
      · go_wp2_with (refine (HH.out _ _).mono ?_; rintro e w' ⟨rfl, rfl⟩)
        go_ret
        exact ⟨ret_int (by rw [idxFrom_at p zs 0 k hkz (fun j hj => hall.out j (by omega) hj) hp]; simp), rfl⟩
    · go_wp2
      go_ret
      exact ⟨ret_int (by rw [idxFrom_none p zs 0 (fun x hx => by
        obtain ⟨j, hj, rfl⟩ := List.getElem_of_mem hx
        exact hall.out j hj (by have := HL.out; omega))]), rfl⟩

theorem containsFunc_ints (p : Int → Bool) (f : Nat) (hcf : ∀ (a : Array Value) (w : World), (callFunc f a).run Try.prog w = .ok (.enter f a) w) (H : ∀ x w, Calls Try.prog f #[.int .i64 x] w fun e w' => e = .returned (.bool (p x)) ∧ w = w')
    (ao : Option Addr) (n cap : Nat) (zs : List Int) (w : World) (ha : At w ao (i64s zs)) (hl : zs.length = n) (hn : n ≤ maxLen) :
    Calls Try.prog 24 #[.slice ao n cap, .func (.func f) #[] #[]] w fun e w' => e = .returned (.bool (zs.any p)) ∧ w = w' := by
  have HI := Lib.hid (indexFunc_ints p f hcf H ao n cap zs w ha hl hn)
  clear hl H hcf
  go_enter Try.func24, Try.ntmps24
  go_wp2_with (go_at_call 27; refine HI.out.mono ?_; rintro e w' ⟨rfl, rfl⟩)
  go_ret
  exact ⟨ret_bool (idxFrom_any p zs 0), rfl⟩

theorem isLong1_any (x : Int) (w : World) : Calls Try.prog 25 #[.int .i64 x] w fun e w' => e = .returned (.bool (decide (65536 < x))) ∧ w = w' := by
  go_enter Try.func25, Try.ntmps25
  go_wp2
  go_ret
  exact ⟨rfl, rfl⟩

theorem isLong_any (ao : Option Addr) (n cap : Nat) (zs : List Int) (w : World) (ha : At w ao (i64s zs)) (hl : zs.length = n) (hn : n ≤ maxLen) :
    Calls Try.prog 16 #[.slice ao n cap] w fun e w' => e = .returned (.bool (zs.any fun x => decide (65536 < x))) ∧ w = w' := by
  have HI := Lib.hid (containsFunc_ints (fun x => decide (65536 < x)) 25 (fun _ _ => by kernel_rfl) isLong1_any ao n cap zs w ha hl hn)
  clear hl
  go_enter Try.func16, Try.ntmps16
  go_wp2_with (go_at_call 24; refine HI.out.mono ?_; rintro e w' ⟨rfl, rfl⟩)
  go_ret
  exact ⟨rfl, rfl⟩
end Go.Proofs.Ytbnlbfljgchcfaa
