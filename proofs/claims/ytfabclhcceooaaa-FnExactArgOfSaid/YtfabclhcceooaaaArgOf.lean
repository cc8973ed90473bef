/-
  Contracts of ArgOf of the given program and of its reference. Conditions: bounds on lengths.
-/
import Derived.Test.YtfabclhcceooaaaActOKW
namespace Go.Proofs.Ytfabclhcceooaaa
open Go.ChangeShapes Go.WideShapes Go.ChangeAt Go.RowKit
set_option linter.unusedVariables false
set_option linter.unusedSimpArgs false

def argV (zs : List Int) (k : Nat) (other : Int) : Int := if h : k < zs.length then (if zs[k] < 0 then other else zs[k]) else other
def argR (kd n : Int) (pv : Bool) (zs : List Int) (tx : ByteArray) (i other : Int) : Int × Int :=
  if actB kd n pv zs tx = true then (if (inR i 0 7 && inR other (-1) 9999) = true then (argV zs i.toNat other, 0) else (0, 4)) else (0, 1)

set_option maxHeartbeats 400000 in
theorem argOf_any (kd n : Int) (pv : Bool) (ao : Option Addr) (len cap : Nat) (zs : List Int) (tx : ByteArray) (k : Nat) (other : Int) (w : World) (ha : At w ao (i64s zs)) (hl : zs.length = len) (hn : len ≤ maxLen) (hk : k ≤ 7) :
    Calls Try.prog 51 #[.agg #[.int .i64 kd, .int .i64 n, .bool pv, .slice ao len cap, .string tx], .int .i64 (k : Int), .int .i64 other] w fun e w' => e = .returned (.int .i64 (argV zs k other)) ∧ Below w.heap.size w w' := by
  unfold maxLen at hn
  have hb0 : Below w.heap.size w (w.alloc (.cells #[.int .i64 kd, .int .i64 n, .bool pv, .slice ao len cap, .string tx] 27)) := (Below.refl _ _).alloc (Nat.le_refl _) _
  have ha1 := Lib.hid (ha.below hb0 (Nat.le_refl _))
  by_cases hkt : k < len
  · have hkz : k < zs.length := by omega
    obtain ⟨z, hz⟩ : ∃ z, zs[k] = z := ⟨_, rfl⟩
    have HV : argV zs k other = if z < 0 then other else z := by rw [argV, dif_pos hkz, hz]
    obtain ⟨b, off, rfl, hc⟩ := ha1.out.get (by intro h; simp [i64s] at h; simp [h] at hkz)
    have hcell : (w.alloc (.cells #[.int .i64 kd, .int .i64 n, .bool pv, .slice (some ⟨b, off, none⟩) len cap, .string tx] 27)).cell? ⟨b, off + k, none⟩ = some (.int .i64 z) := by rw [hc k (by simpa [i64s] using hkz)]; simp [i64s, hz]
    have i1 : (0 : Int) ≤ (k : Int) := by omega
    have i2 : (k : Int) < (len : Int) := by omega
    clear hc hz ha hl ha1 hb0
    by_cases hneg : z < 0
    · rw [HV, if_pos hneg]
      clear HV
      go_enter Try.func51, Try.ntmps51
      go_wp2
      all_goals try (exfalso; omega)
      go_ret
      exact ⟨rfl, (Below.refl _ _).alloc (Nat.le_refl _) _⟩
    · rw [HV, if_neg hneg]
      have h0 : 0 ≤ z := by omega
      clear HV
      go_enter Try.func51, Try.ntmps51
      go_wp2
      all_goals try (exfalso; omega)
      go_ret
      exact ⟨rfl, (Below.refl _ _).alloc (Nat.le_refl _) _⟩
  · have HV : argV zs k other = other := by rw [argV, dif_neg (by omega)]
    rw [HV]
    have i2 : (len : Int) ≤ (k : Int) := by omega
    clear HV ha hl ha1
    go_enter Try.func51, Try.ntmps51
    go_wp2
    all_goals try (exfalso; omega)
    go_ret
    exact ⟨rfl, (Below.refl _ _).alloc (Nat.le_refl _) _⟩

set_option maxHeartbeats 400000 in
theorem l03Arg_any (kd n : Int) (pv : Bool) (ao : Option Addr) (len cap : Nat) (zs : List Int) (tx : ByteArray) (k : Nat) (other : Int) (w : World) (ha : At w ao (i64s zs)) (hl : zs.length = len) (hn : len ≤ maxLen) (hk : k ≤ 7) :
    Calls Try.prog 49 #[.agg #[.int .i64 kd, .int .i64 n, .bool pv, .slice ao len cap, .string tx], .int .i64 (k : Int), .int .i64 other] w fun e w' => e = .returned (.int .i64 (argV zs k other)) ∧ Below w.heap.size w w' := by
  unfold maxLen at hn
  have hb0 : Below w.heap.size w (w.alloc (.cells #[.int .i64 kd, .int .i64 n, .bool pv, .slice ao len cap, .string tx] 27)) := (Below.refl _ _).alloc (Nat.le_refl _) _
  have ha1 := Lib.hid (ha.below hb0 (Nat.le_refl _))
  by_cases hkt : k < len
  · have hkz : k < zs.length := by omega
    obtain ⟨z, hz⟩ : ∃ z, zs[k] = z := ⟨_, rfl⟩
    have HV : argV zs k other = if z < 0 then other else z := by rw [argV, dif_pos hkz, hz]
    obtain ⟨b, off, rfl, hc⟩ := ha1.out.get (by intro h; simp [i64s] at h; simp [h] at hkz)
    have hcell : (w.alloc (.cells #[.int .i64 kd, .int .i64 n, .bool pv, .slice (some ⟨b, off, none⟩) len cap, .string tx] 27)).cell? ⟨b, off + k, none⟩ = some (.int .i64 z) := by rw [hc k (by simpa [i64s] using hkz)]; simp [i64s, hz]
    have i1 : (0 : Int) ≤ (k : Int) := by omega
    have i2 : (k : Int) < (len : Int) := by omega
    clear hc hz ha hl ha1 hb0
    by_cases hneg : z < 0
    · rw [HV, if_pos hneg]
      clear HV
      go_enter Try.func49, Try.ntmps49
      go_wp2
      all_goals try (exfalso; omega)
      go_ret
      exact ⟨rfl, (Below.refl _ _).alloc (Nat.le_refl _) _⟩
    · rw [HV, if_neg hneg]
      have h0 : 0 ≤ z := by omega
      clear HV
      go_enter Try.func49, Try.ntmps49
      go_wp2
      all_goals try (exfalso; omega)
      go_ret
      exact ⟨rfl, (Below.refl _ _).alloc (Nat.le_refl _) _⟩
  · have HV : argV zs k other = other := by rw [argV, dif_neg (by omega)]
    rw [HV]
    have i2 : (len : Int) ≤ (k : Int) := by omega
    clear HV ha hl ha1
    go_enter Try.func49, Try.ntmps49
    go_wp2
    all_goals try (exfalso; omega)
    go_ret
    exact ⟨rfl, (Below.refl _ _).alloc (Nat.le_refl _) _⟩

set_option maxHeartbeats 1000000 in
theorem implArgOf_any (kd n : Int) (pv : Bool) (ao : Option Addr) (len cap : Nat) (zs : List Int) (tx : ByteArray) (i other : Int) (w : World) (ha : At w ao (i64s zs)) (hl : zs.length = len) (hn : len ≤ maxLen) (ht : tx.size ≤ maxLen) :
    Calls Try.prog 18 #[.agg #[.int .i64 kd, .int .i64 n, .bool pv, .slice ao len cap, .string tx], .int .i64 i, .int .i64 other] w fun e w' => e = .returned (.tuple #[.int .i64 (argR kd n pv zs tx i other).1, .int .i64 (argR kd n pv zs tx i other).2]) ∧ Below w.heap.size w w' := by
  have hb0 : Below w.heap.size w (w.alloc (.cells #[.int .i64 kd, .int .i64 n, .bool pv, .slice ao len cap, .string tx] 27)) := (Below.refl _ _).alloc (Nat.le_refl _) _
  have H := Lib.hid (isAction_any kd n pv ao len cap zs tx _ (ha.below hb0 (Nat.le_refl _)) hl hn ht)
  cases hA : actB kd n pv zs tx
  · have HR : Hid (argR kd n pv zs tx i other = (0, 1)) := by show _ = _; rw [argR, hA]; rfl
    rw [hA] at H
    clear hA hl ha
    go_enter Try.func18, Try.ntmps18
    go_wp2_with fail
    refine H.out.mono ?_
    rintro e w1 ⟨rfl, hb1⟩
    have B1 : Below w.heap.size w w1 := hb0.trans (hb1.mono (by simp))
    clear hb1
    go_wp2
    go_ret2
    exact ⟨by rw [HR.out]; rfl, B1⟩
  · rw [hA] at H
    cases h1 : inR i 0 7
    · have HR : Hid (argR kd n pv zs tx i other = (0, 4)) := by show _ = _; rw [argR, hA, if_pos rfl, h1]; rfl
      have H1 := Lib.hid h1
      clear hA hl ha h1
      go_enter Try.func18, Try.ntmps18
      go_wp2_with fail
      refine H.out.mono ?_
      rintro e w1 ⟨rfl, hb1⟩
      have B1 : Below w.heap.size w w1 := hb0.trans (hb1.mono (by simp))
      clear hb1
      go_wp2_with (go_at_call 50; refine (with_val _ _ _ _ _ H1.out).mono ?_; rintro e w' ⟨rfl, rfl⟩)
      go_ret2
      exact ⟨by rw [HR.out]; rfl, B1⟩
    · cases h2 : inR other (-1) 9999
      · have HR : Hid (argR kd n pv zs tx i other = (0, 4)) := by show _ = _; rw [argR, hA, if_pos rfl, h1, h2]; rfl
        have H1 := Lib.hid h1
        have H2 := Lib.hid h2
        clear hA hl ha h1 h2
        go_enter Try.func18, Try.ntmps18
        go_wp2_with fail
        refine H.out.mono ?_
        rintro e w1 ⟨rfl, hb1⟩
        have B1 : Below w.heap.size w w1 := hb0.trans (hb1.mono (by simp))
        clear hb1
        go_wp2_with fail
        refine (with_val _ _ _ _ _ H1.out).mono ?_
        rintro e w' ⟨rfl, rfl⟩
        go_wp2_with fail
        refine (with_val _ _ _ _ _ H2.out).mono ?_
        rintro e w' ⟨rfl, rfl⟩
        go_wp2
        go_ret2
        exact ⟨by rw [HR.out]; rfl, B1⟩
      · obtain ⟨k, rfl⟩ := Int.eq_ofNat_of_zero_le (show 0 ≤ i by have := h1; simp [inR] at this; omega)
        have hk : k ≤ 7 := by simp [inR] at h1; omega
        have HR : Hid (argR kd n pv zs tx k other = (argV zs k other, 0)) := by show _ = _; rw [argR, hA, if_pos rfl, h1, h2]; rfl
        have H1 := Lib.hid h1
        have H2 := Lib.hid h2
        have HL := Lib.hid hl
        clear hA hl h1 h2
        go_enter Try.func18, Try.ntmps18
        go_wp2_with fail
        refine H.out.mono ?_
        rintro e w1 ⟨rfl, hb1⟩
        have B1 : Below w.heap.size w w1 := hb0.trans (hb1.mono (by simp))
        have x1 := box_cells (box_below (box_new w (.cells #[.int .i64 kd, .int .i64 n, .bool pv, .slice ao len cap, .string tx] 27)) hb1 (by simp))
        clear hb1
        go_wp2_with fail
        refine (with_val _ _ _ _ _ H1.out).mono ?_
        rintro e w' ⟨rfl, rfl⟩
        go_wp2_with fail
        refine (with_val _ _ _ _ _ H2.out).mono ?_
        rintro e w' ⟨rfl, rfl⟩
        go_wp2_with fail
        refine (argOf_any kd n pv ao len cap zs tx k other _ (ha.below B1 (Nat.le_refl _)) HL.out hn hk).mono ?_
        rintro e w2 ⟨rfl, hb2⟩
        have B2 : Below w.heap.size w w2 := B1.trans (hb2.mono B1.size)
        clear hb2 x1
        go_wp2
        go_ret2
        exact ⟨by rw [HR.out]; rfl, B2⟩

set_option maxHeartbeats 1000000 in
theorem specArgOf_any (kd n : Int) (pv : Bool) (ao : Option Addr) (len cap : Nat) (zs : List Int) (tx : ByteArray) (i other : Int) (w : World) (ha : At w ao (i64s zs)) (hl : zs.length = len) (hn : len ≤ maxLen) (ht : tx.size ≤ maxLen) :
    Calls Try.prog 17 #[.agg #[.int .i64 kd, .int .i64 n, .bool pv, .slice ao len cap, .string tx], .int .i64 i, .int .i64 other] w fun e w' => e = .returned (.tuple #[.int .i64 (argR kd n pv zs tx i other).1, .int .i64 (argR kd n pv zs tx i other).2]) ∧ Below w.heap.size w w' := by
  have hb0 : Below w.heap.size w (w.alloc (.cells #[.int .i64 kd, .int .i64 n, .bool pv, .slice ao len cap, .string tx] 27)) := (Below.refl _ _).alloc (Nat.le_refl _) _
  have H := Lib.hid (specActionOK_any kd n pv ao len cap zs tx _ (ha.below hb0 (Nat.le_refl _)) hl hn ht)
  cases hA : actB kd n pv zs tx
  · have HR : Hid (argR kd n pv zs tx i other = (0, 1)) := by show _ = _; rw [argR, hA]; rfl
    rw [hA] at H
    clear hA hl ha
    go_enter Try.func17, Try.ntmps17
    go_wp2_with fail
    refine H.out.mono ?_
    rintro e w1 ⟨rfl, hb1⟩
    have B1 : Below w.heap.size w w1 := hb0.trans (hb1.mono (by simp))
    clear hb1
    go_wp2
    go_ret2
    exact ⟨by rw [HR.out]; rfl, B1⟩
  · rw [hA] at H
    cases h1 : inR i 0 7
    · have HR : Hid (argR kd n pv zs tx i other = (0, 4)) := by show _ = _; rw [argR, hA, if_pos rfl, h1]; rfl
      have H1 := Lib.hid h1
      clear hA hl ha h1
      go_enter Try.func17, Try.ntmps17
      go_wp2_with fail
      refine H.out.mono ?_
      rintro e w1 ⟨rfl, hb1⟩
      have B1 : Below w.heap.size w w1 := hb0.trans (hb1.mono (by simp))
      clear hb1
      go_wp2_with (go_at_call 43; refine (in_val _ _ _ _ _ H1.out).mono ?_; rintro e w' ⟨rfl, rfl⟩)
      go_ret2
      exact ⟨by rw [HR.out]; rfl, B1⟩
    · cases h2 : inR other (-1) 9999
      · have HR : Hid (argR kd n pv zs tx i other = (0, 4)) := by show _ = _; rw [argR, hA, if_pos rfl, h1, h2]; rfl
        have H1 := Lib.hid h1
        have H2 := Lib.hid h2
        clear hA hl ha h1 h2
        go_enter Try.func17, Try.ntmps17
        go_wp2_with fail
        refine H.out.mono ?_
        rintro e w1 ⟨rfl, hb1⟩
        have B1 : Below w.heap.size w w1 := hb0.trans (hb1.mono (by simp))
        clear hb1
        go_wp2_with fail
        refine (in_val _ _ _ _ _ H1.out).mono ?_
        rintro e w' ⟨rfl, rfl⟩
        go_wp2_with fail
        refine (in_val _ _ _ _ _ H2.out).mono ?_
        rintro e w' ⟨rfl, rfl⟩
        go_wp2
        go_ret2
        exact ⟨by rw [HR.out]; rfl, B1⟩
      · obtain ⟨k, rfl⟩ := Int.eq_ofNat_of_zero_le (show 0 ≤ i by have := h1; simp [inR] at this; omega)
        have hk : k ≤ 7 := by simp [inR] at h1; omega
        have HR : Hid (argR kd n pv zs tx k other = (argV zs k other, 0)) := by show _ = _; rw [argR, hA, if_pos rfl, h1, h2]; rfl
        have H1 := Lib.hid h1
        have H2 := Lib.hid h2
        have HL := Lib.hid hl
        clear hA hl h1 h2
        go_enter Try.func17, Try.ntmps17
        go_wp2_with fail
        refine H.out.mono ?_
        rintro e w1 ⟨rfl, hb1⟩
        have B1 : Below w.heap.size w w1 := hb0.trans (hb1.mono (by simp))
        have x1 := box_cells (box_below (box_new w (.cells #[.int .i64 kd, .int .i64 n, .bool pv, .slice ao len cap, .string tx] 27)) hb1 (by simp))
        clear hb1
        go_wp2_with fail
        refine (in_val _ _ _ _ _ H1.out).mono ?_
        rintro e w' ⟨rfl, rfl⟩
        go_wp2_with fail
        refine (in_val _ _ _ _ _ H2.out).mono ?_
        rintro e w' ⟨rfl, rfl⟩
        go_wp2_with fail
        refine (l03Arg_any kd n pv ao len cap zs tx k other _ (ha.below B1 (Nat.le_refl _)) HL.out hn hk).mono ?_
        rintro e w2 ⟨rfl, hb2⟩
        have B2 : Below w.heap.size w w2 := B1.trans (hb2.mono B1.size)
        clear hb2 x1
        go_wp2
        go_ret2
        exact ⟨by rw [HR.out]; rfl, B2⟩
theorem specArg_val (kd n : Int) (pv : Bool) (ao : Option Addr) (len cap : Nat) (zs : List Int) (tx : ByteArray) (i other : Int) (g c : Int) (w : World) (ha : At w ao (i64s zs)) (hl : zs.length = len) (hn : len ≤ maxLen) (ht : tx.size ≤ maxLen) (hR : argR kd n pv zs tx i other = (g, c)) :
    Calls Try.prog 17 #[.agg #[.int .i64 kd, .int .i64 n, .bool pv, .slice ao len cap, .string tx], .int .i64 i, .int .i64 other] w fun e w' => e = .returned (.tuple #[.int .i64 g, .int .i64 c]) ∧ Below w.heap.size w w' := by
  have := specArgOf_any kd n pv ao len cap zs tx i other w ha hl hn ht
  rw [hR] at this; exact this
theorem implArg_val (kd n : Int) (pv : Bool) (ao : Option Addr) (len cap : Nat) (zs : List Int) (tx : ByteArray) (i other : Int) (g c : Int) (w : World) (ha : At w ao (i64s zs)) (hl : zs.length = len) (hn : len ≤ maxLen) (ht : tx.size ≤ maxLen) (hR : argR kd n pv zs tx i other = (g, c)) :
    Calls Try.prog 18 #[.agg #[.int .i64 kd, .int .i64 n, .bool pv, .slice ao len cap, .string tx], .int .i64 i, .int .i64 other] w fun e w' => e = .returned (.tuple #[.int .i64 g, .int .i64 c]) ∧ Below w.heap.size w w' := by
  have := implArgOf_any kd n pv ao len cap zs tx i other w ha hl hn ht
  rw [hR] at this; exact this
end Go.Proofs.Ytfabclhcceooaaa
