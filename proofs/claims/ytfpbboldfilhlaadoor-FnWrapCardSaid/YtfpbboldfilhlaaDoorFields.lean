/-
  Contracts of szStringS, of slices.ContainsFunc at strings, of the given program's FieldsBytes and of its reference. Conditions: bounds on what is handed in.
-/
import Derived.Test.YtfpbboldfilhlaaDoorFrameBytes
import Derived.Deep.RegionHeld3
namespace Go.Proofs.YtfpbboldfilhlaaDoor
open Go.ChangeShapes Go.WideShapes Go.ChangeAt Go.RowKit
set_option linter.unusedVariables false
set_option maxRecDepth 20000

set_option maxHeartbeats 400000 in
theorem indexFunc_strs (p : ByteArray → Bool) (f : Nat) (hcf : ∀ (a : Array Value) (w : World), (callFunc f a).run Tryd.prog w = .ok (.enter f a) w) (H : ∀ x w, Calls Tryd.prog f #[.string x] w fun e w' => e = .returned (.bool (p x)) ∧ w = w')
    (ao : Option Addr) (n cap : Nat) (zs : List ByteArray) (w : World) (ha : At w ao (strs zs)) (hl : zs.length = n) (hn : n ≤ maxLen) (hz : ∀ s ∈ zs, s.size ≤ maxLen) :
    Calls Tryd.prog 41 #[.slice ao n cap, .func (.func f) #[] #[]] w fun e w' => e = .returned (.int .i64 (idxFrom p 0 zs)) ∧ w = w' := by
  unfold maxLen at hn
  have HL : Hid (zs.length = n) := hl
  clear hl
  have HH := Lib.hid H
  clear H
  go_enter Tryd.func41, Tryd.ntmps41
  go_wp2
  go_loop [8] (fun i => ∃ k : Nat, k ≤ n ∧ i = .int .i64 k ∧ Hid (∀ j (hj : j < zs.length), j < k → p zs[j] = false)) (fun i => n - (intOf i).toNat)
  case atStart => exact ⟨0, Nat.zero_le _, rfl, fun j hj h => absurd h (by omega)⟩
  case round =>
    obtain ⟨k, hk, rfl, hall⟩ := hrel
    by_cases hlt : k < n
    · have hkz : k < zs.length := by have := HL.out; omega
      obtain ⟨b, off, rfl, hc⟩ := ha.get (by intro h; simp [strs] at h; simp [h] at hkz)
      have hcell : w.cell? ⟨b, off + k, none⟩ = some (.string zs[k]) := by rw [hc k (by simpa [strs] using hkz)]; simp [strs]
      clear hc
      cases hp : p zs[k]
      · go_wp2_with (refine (HH.out _ _).mono ?_; rintro e w' ⟨rfl, rfl⟩)
        go_round
        case rel => exact ⟨k + 1, by omega, by go_num, fun j hj h => if e : j = k then (by subst e; exact hp) else hall.out j hj (by omega)⟩
        case measure => simp [intOf]; omega
      · go_wp2_with (refine (HH.out _ _).mono ?_; rintro e w' ⟨rfl, rfl⟩)
        go_ret
        exact ⟨ret_int (by rw [idxFrom_at p zs 0 k hkz (fun j hj => hall.out j (by omega) hj) hp]; simp), rfl⟩
    · go_wp2
      go_ret
      exact ⟨ret_int (by rw [idxFrom_none p zs 0 (fun x hx => by
        obtain ⟨j, hj, rfl⟩ := List.getElem_of_mem hx
        exact hall.out j hj (by have := HL.out; omega))]), rfl⟩

theorem containsFunc_strs (p : ByteArray → Bool) (f : Nat) (hcf : ∀ (a : Array Value) (w : World), (callFunc f a).run Tryd.prog w = .ok (.enter f a) w) (H : ∀ x w, Calls Tryd.prog f #[.string x] w fun e w' => e = .returned (.bool (p x)) ∧ w = w')
    (ao : Option Addr) (n cap : Nat) (zs : List ByteArray) (w : World) (ha : At w ao (strs zs)) (hl : zs.length = n) (hn : n ≤ maxLen) (hz : ∀ s ∈ zs, s.size ≤ maxLen) :
    Calls Tryd.prog 23 #[.slice ao n cap, .func (.func f) #[] #[]] w fun e w' => e = .returned (.bool (zs.any p)) ∧ w = w' := by
  have HI := Lib.hid (indexFunc_strs p f hcf H ao n cap zs w ha hl hn hz)
  clear hl H hcf
  go_enter Tryd.func23, Tryd.ntmps23
  go_wp2_with (go_at_call 41; refine HI.out.mono ?_; rintro e w' ⟨rfl, rfl⟩)
  go_ret
  exact ⟨ret_bool (idxFrom_any p zs 0), rfl⟩


def fldB (zs : List ByteArray) : List UInt8 := zs.flatMap fun s => bigL s.size 2 ++ s.data.toList
def fieldsL (zs : List ByteArray) : List UInt8 := UInt8.ofNat zs.length :: fldB zs
theorem fldB_snoc (zs : List ByteArray) (s : ByteArray) : fldB (zs ++ [s]) = fldB zs ++ (bigL s.size 2 ++ s.data.toList) := by simp [fldB]
theorem fldB_take (zs : List ByteArray) (k : Nat) : (fldB (zs.take k)).length ≤ (fldB zs).length := by
  have : fldB zs = fldB (zs.take k) ++ fldB (zs.drop k) := by
    unfold fldB; rw [← List.flatMap_append, List.take_append_drop]
  rw [this, List.length_append]; omega
theorem fldB_len (zs : List ByteArray) (h : ∀ s ∈ zs, s.size ≤ 20000) : (fldB zs).length ≤ 20002 * zs.length := by
  induction zs with
  | nil => simp [fldB]
  | cons a l ih =>
    have h1 := h a (by simp)
    have h2 := ih fun s hs => h s (by simp [hs])
    simp only [fldB, List.flatMap_cons, List.length_append, length_bigL, List.length_cons, size_list] at h2 ⊢
    omega
def fieldsR (zs : List ByteArray) : List UInt8 × Int :=
  if 4096 < zs.length then ([], 2) else if 60 < zs.length then ([], 6) else if (zs.any fun s => decide (20000 < s.size)) = true then ([], 4) else
    if 65536 < (fieldsL zs).length then ([], 7) else (fieldsL zs, 0)
theorem fieldsR_le (zs : List ByteArray) : (fieldsR zs).1.length ≤ 1048576 := by
  unfold fieldsR
  repeat' split
  all_goals simp <;> omega
end Go.Proofs.YtfpbboldfilhlaaDoor
