/-
  Contract of strconv.ParseUint at two bytes, base 16, eight bits. Conditions: for a text that is no number, the listed error stands in its variable.
-/
import Derived.Test.YtfkpdinfoagfhaaDoorRdPlain
import Derived.Test.YtfkpdinfoagfhaaDoorShelf
namespace Go.Proofs.YtfkpdinfoagfhaaDoor
open Go.ChangeShapes Go.WideShapes Go.ChangeAt Go.RowKit
set_option linter.unusedVariables false
set_option linter.unusedSimpArgs false
set_option maxRecDepth 100000

theorem u8_or_low (c : UInt8) : bits .or .u8 (c.toNat : Int) 32 = (lowV c : Int) := u8_or_nat c.toNat 32 c.toNat_lt (by decide)
theorem lowV_lt (c : UInt8) : lowV c < 256 := Nat.or_lt_two_pow (n := 8) c.toNat_lt (by decide)

/-- the number of the first digits -/
def numV (l : List UInt8) : Nat → Nat
  | 0 => 0
  | k + 1 => 16 * numV l k + dgV (l.getD k 0)
def ParseIn (l : List UInt8) (w : World) (e : Ending) (w' : World) : Prop :=
  ((okN dgV l 2 ∧ e = .returned (.tuple #[.int .u64 (numV l 2 : Int), .nilIface])) ∨ (¬ okN dgV l 2 ∧ e = .returned (.tuple #[.int .u64 0, .iface 80 (.int .i64 2)]))) ∧ Below w.heap.size w w'
theorem numV_lt {l : List UInt8} : ∀ {k : Nat}, okN dgV l k → numV l k < 16 ^ k
  | 0, _ => by simp [numV]
  | k + 1, h => by
    have h1 := numV_lt (k := k) fun i hi => h i (by omega)
    have h2 := h k (by omega)
    rw [numV, Nat.pow_succ]; omega

set_option maxHeartbeats 4000000 in
theorem parseIn_any (s : ByteArray) (w : World) (hs : s.size = 2) :
    Calls Tryd.prog 42 #[.string s, .int .i64 16, .int .i64 8] w (ParseIn s.data.toList w) := by
  obtain ⟨cp, ob, hcv, HMINE⟩ := bytes_conv (P := Tryd.prog) 9 22 5 s 2 hs Tryd.underlying9 Tryd.underlying22 Tryd.underlying5
  have he : s.toList.isEmpty = false := by
    have h := emptyB_eq s
    unfold emptyB at h
    rw [h]; simp [hs]
  have hM := HMINE.out w w.heap.size (Nat.le_refl _)
  have hL : s.data.toList.length = 2 := by rw [size_list]; exact hs
  have hbel : Below w.heap.size w (w.alloc (ob w)).drew := ((Below.refl _ _).alloc (Nat.le_refl _) _).drew
  have hcells : ∀ k, k < 2 → (w.alloc (ob w)).drew.cell? ⟨w.heap.size, k, none⟩ = some (.int .u8 ((s.data.toList.getD k 0).toNat : Int)) := by
    intro k hk
    obtain ⟨b, o, he, _, h⟩ := hM.get (by intro e; have := congrArg List.length e; rw [length_u8s, hL] at this; cases this)
    simp only [Option.some.injEq, Addr.mk.injEq, and_true] at he
    obtain ⟨rfl, rfl⟩ := he
    have := (h k (by rw [length_u8s]; omega)).1
    rw [Nat.zero_add] at this
    rw [show (w.alloc (ob w)).drew.cell? ⟨w.heap.size, k, none⟩ = (w.drew.alloc (ob w)).cell? ⟨w.heap.size, k, none⟩ from rfl, this]
    simp [u8s, List.getD_eq_getElem?_getD, List.getElem?_eq_getElem (show k < s.data.toList.length by omega)]
  have HC := Lib.hid hcells
  have HB := Lib.hid hbel
  clear hM hbel hcells hL HMINE hs
  go_enter Tryd.func42, Tryd.ntmps42
  go_wp2_with fail
  generalize s.data.toList = l at *
  go_loop [12, 13, 101] (fun u n i => u = .bool false ∧ ∃ k : Nat, k ≤ 2 ∧ i = .int .i64 k ∧ ∃ v : Nat, v ≤ 255 ∧ n = .int .u64 v ∧ Hid (v = numV l k) ∧ Hid (okN dgV l k)) (fun _ _ i => 2 - (intOf i).toNat)
  case atStart => exact ⟨rfl, 0, Nat.zero_le _, rfl, 0, by decide, rfl, rfl, fun i hi => absurd hi (by omega)⟩
  case round =>
    obtain ⟨rfl, k, hk, rfl, v, hv, rfl, hnv, hok⟩ := hrel
    by_cases hkt : k < 2
    · have hc := HC.out k hkt
      have hlw := u8_or_low (l.getD k 0)
      have hl1 := lowV_lt (l.getD k 0)
      obtain ⟨x, hx⟩ : ∃ x, (l.getD k 0).toNat = x := ⟨_, rfl⟩
      obtain ⟨y, hy⟩ : ∃ y, lowV (l.getD k 0) = y := ⟨_, rfl⟩
      have hx1 : x < 256 := by rw [← hx]; exact UInt8.toNat_lt _
      have HD : Hid (dgV (l.getD k 0) = if 48 ≤ x ∧ x ≤ 57 then x - 48 else if 97 ≤ y ∧ y ≤ 122 then y - 87 else 255) := by
        show _ = _
        unfold dgV; rw [hx, hy]
      rw [hx] at hc hlw
      rw [hy] at hlw hl1
      have hv16 : v < 16 := by
        have h1 := numV_lt hok.out
        have h2 := hnv.out
        have : k = 0 ∨ k = 1 := by omega
        rcases this with rfl | rfl <;> simp at h1 <;> omega
      have STEP : ∀ d, dgV (l.getD k 0) = d → (d < 16 → Hid (16 * v + d = numV l (k + 1)) ∧ Hid (okN dgV l (k + 1))) ∧ (¬ d < 16 → Hid (¬ okN dgV l 2)) := by
        rintro d rfl
        refine ⟨fun h => ⟨by show _ = _; rw [numV, hnv.out], fun i hi => ?_⟩, fun h hh => h (hh k hkt)⟩
        by_cases e : i = k
        · subst e; exact h
        · exact hok.out i (by omega)
      have HSTEP := Lib.hid STEP
      have hcut : decide ((1152921504606846976 : Int) ≤ (v : Int)) = false := decide_eq_false (by omega)
      have hcutn : decide (1152921504606846976 ≤ v) = false := decide_eq_false (by omega)
      have LK : (k : Int) < 2 := by omega
      clear STEP hx hy hnv hok
      cases hq : ((x : Int) == 95)
      all_goals
        by_cases hd : 48 ≤ x ∧ x ≤ 57
        · obtain ⟨hd1, hd2⟩ := hd
          have e : dgV (l.getD k 0) = x - 48 := by rw [HD.out, if_pos ⟨hd1, hd2⟩]
          obtain ⟨S1, S2⟩ := (HSTEP.out _ e).1 (by omega)
          have hw : IntKind.u8.wrap ((x : Int) - 48) = (x : Int) - 48 := IntWalk.u8_in _ (by omega)
          have t1 : decide ((48 : Int) ≤ (x : Int)) = true := decide_eq_true (by omega)
          have t2 : decide ((x : Int) ≤ 57) = true := decide_eq_true (by omega)
          clear e HD
          go_wp2_with fail
          all_goals try (exfalso; omega)
          all_goals
            go_round
            case rel => exact ⟨rfl, k + 1, by omega, by go_num, 16 * v + (x - 48), by omega, by go_num, S1, S2⟩
            case measure => simp [intOf]; omega
        · by_cases hl : 97 ≤ y ∧ y ≤ 122
          · obtain ⟨hl2, hl3⟩ := hl
            have e : dgV (l.getD k 0) = y - 87 := by rw [HD.out, if_neg hd, if_pos ⟨hl2, hl3⟩]
            have hw1 : IntKind.u8.wrap ((y : Int) - 97) = (y : Int) - 97 := IntWalk.u8_in _ (by omega)
            have hw2 : IntKind.u8.wrap ((y : Int) - 97 + 10) = (y : Int) - 97 + 10 := IntWalk.u8_in _ (by omega)
            by_cases h16 : y < 103
            · obtain ⟨S1, S2⟩ := (HSTEP.out _ e).1 (by omega)
              clear e HD
              go_wp2_with (go_at_call 54; refine (Tryd.internal_strconv_lower _ _).mono ?_; rintro e w' ⟨rfl, rfl⟩)
              all_goals try (exfalso; omega)
              all_goals
                go_round
                case rel => exact ⟨rfl, k + 1, by omega, by go_num, 16 * v + (y - 87), by omega, by go_num, S1, S2⟩
                case measure => simp [intOf]; omega
            · have S3 := (HSTEP.out _ e).2 (by omega)
              clear e HD
              go_wp2_with (go_at_call 54; refine (Tryd.internal_strconv_lower _ _).mono ?_; rintro e w' ⟨rfl, rfl⟩)
              all_goals try (exfalso; omega)
              all_goals (go_ret2; exact ⟨.inr ⟨S3.out, rfl⟩, HB.out⟩)
          · have e : dgV (l.getD k 0) = 255 := by rw [HD.out, if_neg hd, if_neg hl]
            have S3 := (HSTEP.out _ e).2 (by omega)
            clear e HD
            go_wp2_with (go_at_call 54; refine (Tryd.internal_strconv_lower _ _).mono ?_; rintro e w' ⟨rfl, rfl⟩)
            all_goals try (exfalso; omega)
            all_goals (go_ret2; exact ⟨.inr ⟨S3.out, rfl⟩, HB.out⟩)
    · have hk2 : k = 2 := by omega
      rw [hk2] at hok hnv
      go_wp2
      go_ret2
      exact ⟨.inl ⟨hok.out, by rw [← hnv.out]; rfl⟩, HB.out⟩
end Go.Proofs.YtfkpdinfoagfhaaDoor
