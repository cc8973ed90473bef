/-
  Contracts of slices.IndexFunc and slices.ContainsFunc at numbers, and of isLong of the given program. No condition.
-/
import Derived.Test.YtfpbboldfilhlaaDoorBase
namespace Go.Proofs.YtfpbboldfilhlaaDoor
open Go.ChangeShapes Go.WideShapes Go.ChangeAt Go.RowKit
set_option linter.unusedVariables false

set_option maxHeartbeats 400000 in
theorem indexFunc_ints (p : Int → Bool) (f : Nat) (hcf : ∀ (a : Array Value) (w : World), (callFunc f a).run Tryd.prog w = .ok (.enter f a) w) (H : ∀ x w, Calls Tryd.prog f #[.int .i64 x] w fun e w' => e = .returned (.bool (p x)) ∧ w = w')
    (ao : Option Addr) (n cap : Nat) (zs : List Int) (w : World) (ha : At w ao (i64s zs)) (hl : zs.length = n) (hn : n ≤ maxLen) :
    Calls Tryd.prog 40 #[.slice ao n cap, .func (.func f) #[] #[]] w fun e w' => e = .returned (.int .i64 (idxFrom p 0 zs)) ∧ w = w' := by
  unfold maxLen at hn
  have HL : Hid (zs.length = n) := hl
  clear hl
  have HH := Lib.hid H
  clear H
  go_enter Tryd.func40, Tryd.ntmps40
  go_wp2
  go_loop [8] (fun i => ∃ k : Nat, k ≤ n ∧ i = .int .i64 k ∧ Hid (∀ j (hj : j < zs.length), j < k → p zs[j] = false)) (fun i => n - (intOf i).toNat)
  case atStart => exact ⟨0, Nat.zero_le _, rfl, fun j hj h => absurd h (by omega)⟩
  case round =>
    obtain ⟨k, hk, rfl, hall⟩ := hrel
    by_cases hlt : k < n
    · have hkz : k < zs.length := by have := HL.out; omega
      obtain ⟨b, off, rfl, hc⟩ := ha.get (by intro h; simp [i64s] at h; simp [h] at hkz)
      have hcell : w.cell? ⟨b, off + k, none⟩ = some (.int .i64 zs[k]) := by rw [hc k (by simpa [i64s] using hkz)]; simp [i64s]
      clear hc
      cases hp : p zs[k]
      · go_wp2_with (refine (HH.out _ _).mono ?_; rintro e w' ⟨rfl, rfl⟩)
        go_round
        case rel => exact ⟨k + 1, by omega, by go_num, fun j hj h => if e : j = k then (by subst e; exact hp) else hall.out j hj (by omega)⟩
        case measure => simp [intOf]; omega
      · go_wp2_with (refine (HH.out _ _).mono ?_; rintro e w' ⟨rfl, rfl⟩)
        go_ret
        exact ⟨ret_int (by rw [idxFrom_at p zs 0 k hkz (fun j hj => hall.out j (by omega) hj) hp]; simp), rfl⟩
    · go_wp2
      go_ret
      exact ⟨ret_int (by rw [idxFrom_none p zs 0 (fun x hx => by
        obtain ⟨j, hj, rfl⟩ := List.getElem_of_mem hx
        exact hall.out j hj (by have := HL.out; omega))]), rfl⟩

theorem containsFunc_ints (p : Int → Bool) (f : Nat) (hcf : ∀ (a : Array Value) (w : World), (callFunc f a).run Tryd.prog w = .ok (.enter f a) w) (H : ∀ x w, Calls Tryd.prog f #[.int .i64 x] w fun e w' => e = .returned (.bool (p x)) ∧ w = w')
    (ao : Option Addr) (n cap : Nat) (zs : List Int) (w : World) (ha : At w ao (i64s zs)) (hl : zs.length = n) (hn : n ≤ maxLen) :
    Calls Tryd.prog 20 #[.slice ao n cap, .func (.func f) #[] #[]] w fun e w' => e = .returned (.bool (zs.any p)) ∧ w = w' := by
  have HI := Lib.hid (indexFunc_ints p f hcf H ao n cap zs w ha hl hn)
  clear hl H hcf
  go_enter Tryd.func20, Tryd.ntmps20
  go_wp2_with (go_at_call 40; refine HI.out.mono ?_; rintro e w' ⟨rfl, rfl⟩)
  go_ret
  exact ⟨ret_bool (idxFrom_any p zs 0), rfl⟩

theorem isLong1_any (x : Int) (w : World) : Calls Tryd.prog 21 #[.int .i64 x] w fun e w' => e = .returned (.bool (decide (65536 < x))) ∧ w = w' := by
  go_enter Tryd.func21, Tryd.ntmps21
  go_wp2
  go_ret
  exact ⟨rfl, rfl⟩

theorem isLong_any (ao : Option Addr) (n cap : Nat) (zs : List Int) (w : World) (ha : At w ao (i64s zs)) (hl : zs.length = n) (hn : n ≤ maxLen) :
    Calls Tryd.prog 11 #[.slice ao n cap] w fun e w' => e = .returned (.bool (zs.any fun x => decide (65536 < x))) ∧ w = w' := by
  have HI := Lib.hid (containsFunc_ints (fun x => decide (65536 < x)) 21 (fun _ _ => by kernel_rfl) isLong1_any ao n cap zs w ha hl hn)
  clear hl
  go_enter Tryd.func11, Tryd.ntmps11
  go_wp2_with (go_at_call 20; refine HI.out.mono ?_; rintro e w' ⟨rfl, rfl⟩)
  go_ret
  exact ⟨rfl, rfl⟩
end Go.Proofs.YtfpbboldfilhlaaDoor
