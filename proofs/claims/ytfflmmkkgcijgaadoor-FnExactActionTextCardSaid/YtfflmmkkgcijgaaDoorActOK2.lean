/-
  Contract of ActionOK of the reference. Conditions: bounds on lengths.
-/
import Derived.Test.YtfflmmkkgcijgaaDoorActOK
namespace Go.Proofs.YtfflmmkkgcijgaaDoor
open Go.ChangeShapes Go.WideShapes Go.ChangeAt Go.RowKit
set_option linter.unusedVariables false
set_option linter.unusedSimpArgs false

def actRest (kd n : Int) (tx : ByteArray) : Bool := (noT tx && (if kd = 1 then runeB n else if kd = 2 then ctlB n else if kd = 3 then escB n else false))
theorem args_no {zs : List Int} {k : Nat} (h : k < zs.length) (hc : argOk zs[k] = false) : zs.all argOk = false := by
  rw [Bool.eq_false_iff]
  intro ha
  have := List.all_eq_true.1 ha zs[k] (List.getElem_mem h)
  rw [hc] at this; cases this
theorem args_all {zs : List Int} (h : ∀ j (hj : j < zs.length), argOk zs[j] = true) : zs.all argOk = true := by
  rw [List.all_eq_true]
  intro x hx
  obtain ⟨j, hj, rfl⟩ := List.getElem_of_mem hx
  exact h j hj

set_option maxHeartbeats 1000000 in
set_option maxRecDepth 100000 in
theorem specAct4 (n : Int) (pv : Bool) (ao : Option Addr) (len cap : Nat) (zs : List Int) (tx : ByteArray) (w : World) (ha : At w ao (i64s zs)) (hl : zs.length = len) (hn : len ≤ maxLen) (ht : tx.size ≤ maxLen) :
    Calls Tryd.prog 28 #[.agg #[.int .i64 4, .int .i64 n, .bool pv, .slice ao len cap, .string tx]] w fun e w' => e = .returned (.bool (actB 4 n pv zs tx)) ∧ Below w.heap.size w w' := by
  have HL := Lib.hid hl
  by_cases h8 : 8 < len
  · have HB : Hid (actB 4 n pv zs tx = false) := by
      show _ = _
      have : inR (zs.length : Int) 1 8 = false := by rw [inR, Bool.and_eq_false_iff, decide_eq_false_iff_not, decide_eq_false_iff_not]; omega
      rw [actB, if_pos rfl, argsB, this]; simp
    have h8' : (8 : Int) < (len : Int) := by omega
    clear hl ha
    go_enter Tryd.func28, Tryd.ntmps28
    go_wp2
    all_goals try (exfalso; omega)
    go_ret
    exact ⟨ret_bool HB.out.symm, (Below.refl _ _).alloc (Nat.le_refl _) _⟩
  cases he : tx.toList.isEmpty
  · have HB : Hid (actB 4 n pv zs tx = false) := by show _ = _; rw [actB, if_pos rfl, noT, he, Bool.and_false]
    have h8' : (len : Int) ≤ 8 := by omega
    have he2 : (!tx.toList.isEmpty) = true := by rw [he]; rfl
    clear hl ha
    go_enter Tryd.func28, Tryd.ntmps28
    go_wp2
    all_goals try (exfalso; omega)
    go_ret
    exact ⟨ret_bool HB.out.symm, (Below.refl _ _).alloc (Nat.le_refl _) _⟩
  · have h8' : (len : Int) ≤ 8 := by omega
    have he2 : (!tx.toList.isEmpty) = false := by rw [he]; rfl
    have hb0 : Below w.heap.size w (w.alloc (.cells #[.int .i64 4, .int .i64 n, .bool pv, .slice ao len cap, .string tx] 40)) := (Below.refl _ _).alloc (Nat.le_refl _) _
    have ha1 := Lib.hid (ha.below hb0 (Nat.le_refl _))
    have HB : Hid (actB 4 n pv zs tx = (inR n 64 126 && (inR len 1 8 && zs.all argOk))) := by show _ = _; rw [actB, if_pos rfl, argsB, hl, noT, he, Bool.and_true]
    generalize actB 4 n pv zs tx = R at *
    clear hl ha hb0
    go_enter Tryd.func28, Tryd.ntmps28
    go_wp2
    all_goals try (exfalso; omega)
    go_loop [3] (fun i => ∃ k : Nat, k ≤ len ∧ i = .int .i64 k ∧ Hid (∀ j (hj : j < zs.length), j < k → argOk zs[j] = true)) (fun i => len - (intOf i).toNat)
    case atStart => exact ⟨0, Nat.zero_le _, rfl, fun j hj h => absurd h (by omega)⟩
    case round =>
      obtain ⟨k, hk, rfl, hall⟩ := hrel
      by_cases hkt : k < len
      · have hkz : k < zs.length := by have := HL.out; omega
        obtain ⟨b, off, rfl, hc⟩ := ha1.out.get (by intro h; simp [i64s] at h; simp [h] at hkz)
        have hcell : (w.alloc (.cells #[.int .i64 4, .int .i64 n, .bool pv, .slice (some ⟨b, off, none⟩) len cap, .string tx] 40)).cell? ⟨b, off + k, none⟩ = some (.int .i64 zs[k]) := by rw [hc k (by simpa [i64s] using hkz)]; simp [i64s]
        clear hc
        cases hc : argOk zs[k]
        · have H : Hid (R = false) := by show _ = _; rw [HB.out, args_no hkz hc, Bool.and_false, Bool.and_false]
          have HC := Lib.hid hc
          clear hc
          generalize zs[k] = z at *
          go_wp2_with (go_at_call 18; refine (in_val _ _ _ _ _ HC.out).mono ?_; rintro e w' ⟨rfl, rfl⟩)
          go_ret
          exact ⟨ret_bool H.out.symm, (Below.refl _ _).alloc (Nat.le_refl _) _⟩
        · have HA : Hid (∀ j (hj : j < zs.length), j < k + 1 → argOk zs[j] = true) := fun j hj h => if e : j = k then (by subst e; exact hc) else hall.out j hj (by omega)
          have HC := Lib.hid hc
          clear hc hall
          obtain ⟨z, hz⟩ : ∃ z, zs[k] = z := ⟨_, rfl⟩
          rw [hz] at hcell HC
          clear hz
          go_wp2_with (go_at_call 18; refine (in_val _ _ _ _ _ HC.out).mono ?_; rintro e w' ⟨rfl, rfl⟩)
          go_round
          case rel => exact ⟨k + 1, by omega, by go_num, HA⟩
          case measure => simp [intOf]; omega
      · have H : Hid (R = (inR n 64 126 && decide (0 < (len : Int)))) := by
          show _ = _
          have e : inR (len : Int) 1 8 = decide (0 < (len : Int)) := by rw [inR, Bool.eq_iff_iff]; simp; omega
          rw [HB.out, args_all (fun j hj => hall.out j hj (by have := HL.out; omega)), Bool.and_true, e]
        go_wp2_with (go_at_call 18; refine (in_val _ _ _ _ _ rfl).mono ?_; rintro e w' ⟨rfl, rfl⟩)
        all_goals (go_ret; refine ⟨ret_bool ?_, (Below.refl _ _).alloc (Nat.le_refl _) _⟩)
        all_goals rw [H.out]
        all_goals simp_all

set_option maxHeartbeats 1000000 in
set_option maxRecDepth 100000 in
theorem specActNo (kd n : Int) (pv : Bool) (ao : Option Addr) (len cap : Nat) (tx : ByteArray) (w : World) (hk : kd ≠ 4) (h : 0 < len ∨ pv = true) :
    Calls Tryd.prog 28 #[.agg #[.int .i64 kd, .int .i64 n, .bool pv, .slice ao len cap, .string tx]] w fun e w' => e = .returned (.bool false) ∧ Below w.heap.size w w' := by
  have q1 : (kd != 4) = true := by simpa using hk
  have q2 : (kd == 4) = false := by simpa using hk
  clear hk
  by_cases h8 : 8 < len
  · have h8' : (8 : Int) < (len : Int) := by omega
    go_enter Tryd.func28, Tryd.ntmps28
    go_wp2
    go_ret
    exact ⟨rfl, (Below.refl _ _).alloc (Nat.le_refl _) _⟩
  have h8' : (len : Int) ≤ 8 := by omega
  by_cases h0 : 0 < len
  · have h0' : (0 : Int) < (len : Int) := by omega
    go_enter Tryd.func28, Tryd.ntmps28
    go_wp2
    all_goals try (exfalso; omega)
    go_ret
    exact ⟨rfl, (Below.refl _ _).alloc (Nat.le_refl _) _⟩
  · have hp : pv = true := h.resolve_left h0
    subst hp
    have h0' : (len : Int) ≤ 0 := by omega
    go_enter Tryd.func28, Tryd.ntmps28
    go_wp2
    all_goals try (exfalso; omega)
    go_ret
    exact ⟨rfl, (Below.refl _ _).alloc (Nat.le_refl _) _⟩

set_option maxHeartbeats 1000000 in
set_option maxRecDepth 100000 in
theorem specActRest (kd n : Int) (ao : Option Addr) (cap : Nat) (tx : ByteArray) (w : World) (hk : kd ≠ 4) (hk5 : kd ≠ 5) :
    Calls Tryd.prog 28 #[.agg #[.int .i64 kd, .int .i64 n, .bool false, .slice ao 0 cap, .string tx]] w fun e w' => e = .returned (.bool (actRest kd n tx)) ∧ Below w.heap.size w w' := by
  have q1 : (kd != 4) = true := by simpa using hk
  have q2 : (kd == 4) = false := by simpa using hk
  have q3 : (kd != 5) = true := by simpa using hk5
  have q4 : (kd == 5) = false := by simpa using hk5
  cases he : tx.toList.isEmpty
  · have he2 : (!tx.toList.isEmpty) = true := by rw [he]; rfl
    have HB : Hid (actRest kd n tx = false) := by show _ = _; rw [actRest, noT, he, Bool.false_and]
    clear hk hk5
    go_enter Tryd.func28, Tryd.ntmps28
    go_wp2
    all_goals try (exfalso; omega)
    go_ret
    exact ⟨ret_bool HB.out.symm, (Below.refl _ _).alloc (Nat.le_refl _) _⟩
  · have he2 : (!tx.toList.isEmpty) = false := by rw [he]; rfl
    obtain ⟨R, hR⟩ : ∃ R, actRest kd n tx = R := ⟨_, rfl⟩
    rw [hR]
    rw [actRest, noT, he, Bool.true_and] at hR
    have HR := Lib.hid hR
    clear hk hk5 hR
    go_enter Tryd.func28, Tryd.ntmps28
    go_wp2
    all_goals try (exfalso; omega)
    go_loop [3] (fun i => i = .int .i64 0) (fun i => 0)
    case atStart => exact rfl
    case round =>
      subst hrel
      go_wp2_with (first
        | (go_at_call 18; refine (in_val _ _ _ _ _ rfl).mono ?_; rintro e w' ⟨rfl, rfl⟩)
        | (go_at_call 49; refine (l03RuneOK_any _ _).mono ?_; rintro e w' ⟨rfl, rfl⟩)
        | (go_at_call 50; refine (l03Control_any _ _).mono ?_; rintro e w' ⟨rfl, rfl⟩))
      all_goals try (exfalso; omega)
      all_goals (go_ret; refine ⟨ret_bool ?_, (Below.refl _ _).alloc (Nat.le_refl _) _⟩)
      all_goals rw [← HR.out]
      all_goals clear HR
      all_goals first
        | (simp_all [runeB, escB]; done)
        | (simp_all [runeB, escB, inR]; done)
        | (simp_all [runeB, escB, inR]; omega)
        | (rw [Bool.eq_iff_iff]; simp_all [runeB, escB, inR]; omega)

set_option maxHeartbeats 1000000 in
set_option maxRecDepth 100000 in
theorem specAct5 (n : Int) (ao : Option Addr) (cap : Nat) (tx : ByteArray) (w : World) (ht : tx.size ≤ maxLen) :
    Calls Tryd.prog 28 #[.agg #[.int .i64 5, .int .i64 n, .bool false, .slice ao 0 cap, .string tx]] w fun e w' => e = .returned (.bool (decide (n = 0) && titleB tx)) ∧ Below w.heap.size w w' := by
  unfold maxLen at ht
  by_cases hno : n = 0 ∧ tx.size ≤ 40
  · obtain ⟨rfl, h40⟩ := hno
    have h40' : (tx.size : Int) ≤ 40 := by omega
    obtain ⟨R, hR⟩ : ∃ R, (decide ((0 : Int) = 0) && titleB tx) = R := ⟨_, rfl⟩
    rw [hR]
    have HR : Hid (titleB tx = R) := by show _ = _; rw [← hR]; rfl
    clear hR
    go_enter Tryd.func28, Tryd.ntmps28
    go_wp2
    all_goals try (exfalso; omega)
    go_loop [3] (fun i => i = .int .i64 0) (fun i => 0)
    case atStart => exact rfl
    case round =>
      subst hrel
      go_wp2
      all_goals try (exfalso; omega)
      go_loop [4] (fun i => ∃ k : Nat, k ≤ tx.size ∧ i = .int .i64 k ∧ Hid (∀ j (hj : j < tx.size), j < k → chrOk tx[j] = true)) (fun i => tx.size - (intOf i).toNat)
      case atStart => exact ⟨0, Nat.zero_le _, rfl, fun j hj h => absurd h (by omega)⟩
      case round =>
        obtain ⟨k, hk, rfl, hall⟩ := hrel
        by_cases hkt : k < tx.size
        · have v1 : IntKind.i64.wrap (tx[k].toNat : Int) = (tx[k].toNat : Int) := by have := tx[k].toNat_lt; rw [IntKind.wrap_i64]; omega
          have b1 : (tx[k].toNat : Int) ≤ 255 := by have := tx[k].toNat_lt; omega
          have e1 : inR (tx[k].toNat : Int) 32 126 = chrOk tx[k] := by rw [Bool.eq_iff_iff]; simp [inR, chrOk]; omega
          cases hc : chrOk tx[k]
          · have H : Hid (R = false) := by show _ = _; rw [← HR.out, title_no hkt hc]
            have HC : Hid (inR (tx[k].toNat : Int) 32 126 = false) := by show _ = _; rw [e1, hc]
            clear hc e1
            go_wp2_with (go_at_call 18; refine (in_val _ _ _ _ _ HC.out).mono ?_; rintro e w' ⟨rfl, rfl⟩)
            go_ret
            exact ⟨ret_bool H.out.symm, (Below.refl _ _).alloc (Nat.le_refl _) _⟩
          · have HC : Hid (inR (tx[k].toNat : Int) 32 126 = true) := by show _ = _; rw [e1, hc]
            have HA : Hid (∀ j (hj : j < tx.size), j < k + 1 → chrOk tx[j] = true) := fun j hj h => if e : j = k then (by subst e; exact hc) else hall.out j hj (by omega)
            clear hc e1
            go_wp2_with (go_at_call 18; refine (in_val _ _ _ _ _ HC.out).mono ?_; rintro e w' ⟨rfl, rfl⟩)
            go_round
            case rel => exact ⟨k + 1, by omega, by go_num, HA⟩
            case measure => simp [intOf]; omega
        · have H : Hid (R = true) := by show _ = _; rw [← HR.out, title_all (fun j hj => hall.out j hj (by omega))]; exact decide_eq_true h40
          go_wp2
          go_ret
          exact ⟨ret_bool H.out.symm, (Below.refl _ _).alloc (Nat.le_refl _) _⟩
  · have HR : Hid ((decide (n = 0) && titleB tx) = false) := by
      show _ = _
      rw [Bool.eq_false_iff]; intro h; simp [titleB] at h; exact hno ⟨h.1, h.2.1⟩
    generalize (decide (n = 0) && titleB tx) = R at *
    by_cases hn0 : n = 0
    · have h40 : (40 : Int) < (tx.size : Int) := by have : ¬ tx.size ≤ 40 := fun h => hno ⟨hn0, h⟩; omega
      subst hn0
      clear hno
      go_enter Tryd.func28, Tryd.ntmps28
      go_wp2
      all_goals try (exfalso; omega)
      go_loop [3] (fun i => i = .int .i64 0) (fun i => 0)
      case atStart => exact rfl
      case round =>
        subst hrel
        go_wp2
        all_goals try (exfalso; omega)
        go_ret
        exact ⟨ret_bool HR.out.symm, (Below.refl _ _).alloc (Nat.le_refl _) _⟩
    · have q1 : (n != 0) = true := by simpa using hn0
      have q2 : (n == 0) = false := by simpa using hn0
      clear hno hn0
      go_enter Tryd.func28, Tryd.ntmps28
      go_wp2
      all_goals try (exfalso; omega)
      go_loop [3] (fun i => i = .int .i64 0) (fun i => 0)
      case atStart => exact rfl
      case round =>
        subst hrel
        go_wp2
        all_goals try (exfalso; omega)
        go_ret
        exact ⟨ret_bool HR.out.symm, (Below.refl _ _).alloc (Nat.le_refl _) _⟩

theorem specActionOK_any (kd n : Int) (pv : Bool) (ao : Option Addr) (len cap : Nat) (zs : List Int) (tx : ByteArray) (w : World) (ha : At w ao (i64s zs)) (hl : zs.length = len) (hn : len ≤ maxLen) (ht : tx.size ≤ maxLen) :
    Calls Tryd.prog 28 #[.agg #[.int .i64 kd, .int .i64 n, .bool pv, .slice ao len cap, .string tx]] w fun e w' => e = .returned (.bool (actB kd n pv zs tx)) ∧ Below w.heap.size w w' := by
  by_cases h4 : kd = 4
  · subst h4; exact specAct4 n pv ao len cap zs tx w ha hl hn ht
  by_cases hp : 0 < len ∨ pv = true
  · have e : actB kd n pv zs tx = false := by
      rw [actB, if_neg h4, hl]
      rcases hp with h | h
      · rw [decide_eq_false (by omega : ¬ len = 0)]; simp
      · rw [h]; simp
    rw [e]; exact specActNo kd n pv ao len cap tx w h4 hp
  · obtain rfl : len = 0 := by omega
    obtain rfl : pv = false := by cases pv; rfl; exact absurd (Or.inr rfl) hp
    by_cases h5 : kd = 5
    · have e : actB kd n false zs tx = (decide (n = 0) && titleB tx) := by rw [actB, if_neg h4, hl, if_pos h5]; simp
      subst h5
      rw [e]; exact specAct5 n ao cap tx w ht
    · have e : actB kd n false zs tx = actRest kd n tx := by rw [actB, if_neg h4, hl, if_neg h5, actRest]; simp
      rw [e]; exact specActRest kd n ao cap tx w h4 h5
end Go.Proofs.YtfflmmkkgcijgaaDoor
