/-
  Contracts of at, sameTexts and sameInts of the laws. Conditions: bounds.
-/
import Derived.Test.YtfpbboldfilhlaaDoorSlices
import Derived.BigQuiet
namespace Go.Proofs.YtfpbboldfilhlaaDoor
open Go.ChangeShapes Go.WideShapes Go.ChangeAt Go.RowKit
set_option linter.unusedVariables false

def atV (l : List UInt8) (i n : Nat) : Nat :=
  if n ≤ 1 then 0 else if l.length = 0 then i * 7 % n else ((l.getD (i % l.length) 0).toNat * 31 + (l.getD ((i + 1) % l.length) 0).toNat + i / l.length) % n
theorem atV_lt (l : List UInt8) (i n : Nat) (h : 0 < n) : atV l i n < n := by
  unfold atV
  split
  · omega
  · split
    · exact Nat.mod_lt _ h
    · exact Nat.mod_lt _ h

theorem at_any (ao : Option Addr) (len cap : Nat) (l : List UInt8) (w : World) (i n : Nat) (ha : At w ao (u8s l)) (hl : l.length = len) (hs : len ≤ 1048576) (hi : i ≤ 1048576) (hn : n ≤ 1048576) :
    Calls Tryd.prog 4 #[.slice ao len cap, .int .i64 i, .int .i64 n] w fun e w' => e = .returned (.int .i64 (atV l i n : Int)) ∧ Below w.heap.size w w' := by
  by_cases h1 : n ≤ 1
  · have H : Hid (atV l i n = 0) := by show _ = _; rw [atV, if_pos h1]
    clear hl
    go_enter Tryd.func4, Tryd.ntmps4
    go_wp2
    go_ret
    exact ⟨ret_int (by rw [H.out]; rfl), Below.refl _ _⟩
  have hn0 : (1 : Int) < (n : Int) := by omega
  by_cases h2 : len = 0
  · have H : Hid (atV l i n = i * 7 % n) := by show _ = _; rw [atV, if_neg h1, if_pos (by omega)]
    have h2' : ((len : Int) == 0) = true := by simp; omega
    clear hl h2
    go_enter Tryd.func4, Tryd.ntmps4
    go_wp2
    go_ret
    exact ⟨ret_int (by rw [H.out]; simp), Below.refl _ _⟩
  · have hl0 : 0 < len := by omega
    obtain ⟨x, hx⟩ : ∃ x : Nat, x = (l.getD (i % len) 0).toNat := ⟨_, rfl⟩
    obtain ⟨y, hy⟩ : ∃ y : Nat, y = (l.getD ((i + 1) % len) 0).toNat := ⟨_, rfl⟩
    have H : Hid (atV l i n = (x * 31 + y + i / len) % n) := by show _ = _; rw [atV, if_neg h1, if_neg (by omega), hl, hx, hy]
    have hx1 : x < 256 := by rw [hx]; exact UInt8.toNat_lt _
    have hy1 : y < 256 := by rw [hy]; exact UInt8.toNat_lt _
    have h2' : ((len : Int) == 0) = false := by simp; omega
    obtain ⟨j, hj⟩ : ∃ j, j = i % len := ⟨_, rfl⟩
    obtain ⟨k, hk⟩ : ∃ k, k = (i + 1) % len := ⟨_, rfl⟩
    obtain ⟨q, hq⟩ : ∃ q, q = i / len := ⟨_, rfl⟩
    have hjl : j < len := by rw [hj]; exact Nat.mod_lt _ hl0
    have hkl : k < len := by rw [hk]; exact Nat.mod_lt _ hl0
    have hql : q ≤ 1048576 := by rw [hq]; exact Nat.le_trans (Nat.div_le_self _ _) hi
    rw [← hj] at hx
    rw [← hk] at hy
    rw [← hq] at H
    obtain ⟨b, o, rfl, hc⟩ := ha.get (by intro e; have := congrArg List.length e; simp [u8s] at this; simp [this] at hl; omega)
    have cx : w.cell? ⟨b, o + j, none⟩ = some (.int .u8 (x : Int)) := by
      have hj2 : j < l.length := by omega
      rw [hc j (by simpa [u8s] using hj2), u8s_get _ _ _ hj2, hx, List.getD_eq_getElem?_getD, List.getElem?_eq_getElem hj2]; rfl
    have cy : w.cell? ⟨b, o + k, none⟩ = some (.int .u8 (y : Int)) := by
      have hk2 : k < l.length := by omega
      rw [hc k (by simpa [u8s] using hk2), u8s_get _ _ _ hk2, hy, List.getD_eq_getElem?_getD, List.getElem?_eq_getElem hk2]; rfl
    have v1 : (i : Int).tmod (len : Int) = (j : Int) := by rw [hj, Int.tmod_eq_emod_of_nonneg (by omega)]; simp
    have v2 : IntKind.i64.wrap ((i : Int) + 1) = (i : Int) + 1 := by rw [IntKind.wrap_i64]; omega
    have v3 : ((i : Int) + 1).tmod (len : Int) = (k : Int) := by rw [hk, Int.tmod_eq_emod_of_nonneg (by omega)]; simp
    have v4 : (i : Int).tdiv (len : Int) = (q : Int) := by rw [hq, Int.tdiv_eq_ediv_of_nonneg (by omega)]; simp
    have v5 : IntKind.i64.wrap (j : Int) = (j : Int) := by rw [IntKind.wrap_i64]; omega
    have v6 : IntKind.i64.wrap (k : Int) = (k : Int) := by rw [IntKind.wrap_i64]; omega
    have v7 : IntKind.i64.wrap (q : Int) = (q : Int) := by rw [IntKind.wrap_i64]; omega
    have v8 : IntKind.i64.wrap (x : Int) = (x : Int) := by rw [IntKind.wrap_i64]; omega
    have v9 : IntKind.i64.wrap (y : Int) = (y : Int) := by rw [IntKind.wrap_i64]; omega
    have u1 : IntKind.i64.wrap ((x : Int) * 31) = (x : Int) * 31 := by rw [IntKind.wrap_i64]; omega
    have u2 : IntKind.i64.wrap ((x : Int) * 31 + (y : Int)) = (x : Int) * 31 + (y : Int) := by rw [IntKind.wrap_i64]; omega
    have u3 : IntKind.i64.wrap ((x : Int) * 31 + (y : Int) + (q : Int)) = (x : Int) * 31 + (y : Int) + (q : Int) := by rw [IntKind.wrap_i64]; omega
    obtain ⟨r, hr⟩ : ∃ r : Nat, r = (x * 31 + y + q) % n := ⟨_, rfl⟩
    have hrn : r < n := by rw [hr]; exact Nat.mod_lt _ (by omega)
    have u4 : ((x : Int) * 31 + (y : Int) + (q : Int)).tmod (n : Int) = (r : Int) := by rw [hr, Int.tmod_eq_emod_of_nonneg (by omega)]; simp
    have u5 : IntKind.i64.wrap (r : Int) = (r : Int) := by rw [IntKind.wrap_i64]; omega
    rw [← hr] at H
    have i1 : (0 : Int) ≤ (j : Int) := by omega
    have i2 : (j : Int) < (len : Int) := by omega
    have i3 : (0 : Int) ≤ (k : Int) := by omega
    have i4 : (k : Int) < (len : Int) := by omega
    have n1 : ((len : Int) == 0) = false := h2'
    have n2 : ((n : Int) == 0) = false := by simp; omega
    have n3 : (len : Int) ≠ 0 := by omega
    have n4 : (n : Int) ≠ 0 := by omega
    clear hl h2 hx hy hj hk hq hr hc ha hl0
    go_enter Tryd.func4, Tryd.ntmps4
    go_wp2
    go_quiet (fail)
    go_wp2
    go_ret
    exact ⟨ret_int (by rw [H.out]), ⟨rfl, rfl, rfl, Nat.le_refl _, fun _ _ => rfl⟩⟩

end Go.Proofs.YtfpbboldfilhlaaDoor
