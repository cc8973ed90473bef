/-
  Contracts of the given program's ReadNumbers and of its reference. Conditions: bounds on what is handed in.
-/
import Derived.Test.YtfabclhcceooaaaNumbers
import Derived.WalkSpells
namespace Go.Proofs.Ytfabclhcceooaaa
open Go.ChangeShapes Go.WideShapes Go.ChangeAt Go.RowKit
set_option linter.unusedVariables false
set_option maxRecDepth 20000

/-- the numbers of an encoding: each three bytes, one more than the number -/
def readL : Nat → List UInt8 → List Int
  | 0, _ => []
  | k + 1, l => ((numL (l.take 3) : Int) - 1) :: readL k (l.drop 3)
theorem length_readL : ∀ (k : Nat) (l : List UInt8), (readL k l).length = k
  | 0, _ => rfl
  | k + 1, l => by simp [readL, length_readL k]
theorem readL_snoc : ∀ (k : Nat) (l : List UInt8), readL (k + 1) l = readL k l ++ [(numL ((l.drop (3 * k)).take 3) : Int) - 1]
  | 0, l => by simp [readL]
  | k + 1, l => by
    rw [readL, readL_snoc k, readL, List.cons_append, List.drop_drop, show 3 + 3 * k = 3 * (k + 1) from by omega]

theorem Try.info_i64b : (Try.prog.info? 3).map (fun i => (i.zero, i.size, i.bytes)) = some (some (Value.int .i64 0), 1, 8) := by kernel_rfl

theorem numL3 (l : List UInt8) (h : l.length ≤ 3) : numL l ≤ 16777215 := by have := numL_lt 3 l h; omega

set_option maxHeartbeats 400000 in
theorem readNumbers_any (s : ByteArray) (n : Nat) (w : World) (hs : s.size = 3 * n) (hn : n ≤ 16777216) :
    Calls Try.prog 117 #[.string s] w fun e w' => ∃ ao cap, e = .returned (.slice ao n cap) ∧ Mine w.heap.size w' ao (i64s (readL n s.data.toList)) ∧ Below w.heap.size w w' := by
  obtain ⟨i0, hi, hz0, hz1, hz2⟩ := info_parts Try.info_i64b
  have HS := Lib.hid hs
  clear hs
  go_enter Try.func117, Try.ntmps117
  go_wp2
  go_loopw [0, 3] (fun b v wr => ∃ k : Nat, k ≤ n ∧ ∃ (r : ByteArray) (ao : Option Addr) (cap : Nat), b = .string r ∧ Hid (r.data.toList = s.data.toList.drop (3 * k)) ∧ v = .slice ao k cap ∧ wr.ownsRow w.heap.size 3 1 (.slice ao k cap) k (i64s (readL k s.data.toList)) ∧ Below w.heap.size w wr) (fun b _ _ => match b with | .string r => r.size | _ => 0)
  case atStart => exact ⟨0, Nat.zero_le _, s, none, 0, rfl, by show _ = _; simp, rfl, World.ownsRow_nil _ _ _ _, Below.refl _ _⟩
  case round =>
    obtain ⟨k, hk, r, ao, cap, rfl, hr, rfl, hown, hb⟩ := hrel
    have hrs : r.size = 3 * (n - k) := by rw [Lib.size_eq, hr.out, List.length_drop, ← Lib.size_eq, HS.out]; omega
    by_cases hkt : k < n
    · have h3 : 3 ≤ r.size := by omega
      have HRS := Lib.hid hrs
      clear hrs
      have hx : Hid ((r.extract 0 3).data.toList = (s.data.toList.drop (3 * k)).take 3) := by show _ = _; rw [Lib.extract_data, hr.out]; simp
      have hd : Hid ((r.extract 3 r.size).data.toList = s.data.toList.drop (3 * (k + 1))) := by
        show _ = _
        rw [Lib.extract_data, hr.out, List.drop_drop, show 3 * k + 3 = 3 * (k + 1) from by omega]
        apply List.take_of_length_le
        rw [List.length_drop, ← Lib.size_eq, HS.out, HRS.out]; omega
      obtain ⟨m, hm, hml⟩ : ∃ m : Nat, Hid (m = numL ((s.data.toList.drop (3 * k)).take 3)) ∧ m ≤ 16777215 := ⟨_, rfl, numL3 _ (by simp; omega)⟩
      have HN : Hid (readL (k + 1) s.data.toList = readL k s.data.toList ++ [(m : Int) - 1]) := by show _ = _; rw [readL_snoc, hm.out]
      have hnum := Lib.hid (bigNumber_any (r.extract 0 3) wr (by simp [ByteArray.size_extract]; omega))
      rw [hx.out, ← hm.out] at hnum
      go_wp2_with (first
        | (go_at_call 107; refine hnum.out.mono ?_; rintro e w' ⟨rfl, rfl⟩)
        | (at_builtin; refine wpList_append_lies _ rfl _ _ 22 rfl w.heap.size 3 i0 (.int .i64 0) 1 8 Try.underlying22 hi hz0 hz1 hz2 rfl (by decide) _ _ _ rfl (hown.alloc _) ⟨wr.heap.size, 0, none⟩ 1 1 [.int .i64 ((m : Int) - 1)] rfl rfl (fun j u hu => World.news_of_block (heap_alloc_new _ _) j u hu) (by intro u hu; simp at hu; subst hu; rfl) (by decide) (by unfold maxLen; omega) (by omega) (by have := hb.size; simp; omega) _ rfl ?_; intro g2 cap2 w2 hown2 hgrow2 hlie2 hlt2))
      have hb2 : Below w.heap.size w w2 := (hb.alloc (by exact hb.size) _).grown hgrow2 (by have := hb.size; simp; omega) (fun j hj => (hown.lt j hj).1)
      clear hown hgrow2 hlie2 hlt2 hb
      go_roundw
      case rel => exact ⟨k + 1, by omega, _, _, cap2, rfl, hd, rfl, by rw [HN.out]; simpa [i64s] using hown2, hb2⟩
      case measure => have := HRS.out; simp [ByteArray.size_extract]; omega
    · have hkk : Hid (k = n) := by show k = n; omega
      have hlt : ¬ 3 ≤ r.size := by omega
      clear hrs
      go_wp2
      go_ret
      exact ⟨ao, cap, by rw [← hkk.out]; rfl, by rw [← hkk.out]; exact own_at hown, hb⟩

set_option maxHeartbeats 400000 in
theorem l02ReadNumbers_any (s : ByteArray) (n : Nat) (w : World) (hs : s.size = 3 * n) (hn : n ≤ 16777216) :
    Calls Try.prog 101 #[.string s] w fun e w' => ∃ ao cap, e = .returned (.tuple #[.slice ao n cap, .bool true]) ∧ Mine w.heap.size w' ao (i64s (readL n s.data.toList)) ∧ Below w.heap.size w w' := by
  obtain ⟨i0, hi, hz0, hz1, hz2⟩ := info_parts Try.info_i64b
  have HS := Lib.hid hs
  have hm3 : (((s.size : Int) % 3 != 0)) = false := by simp; omega
  have hle : s.size ≤ 50331648 := by omega
  clear hs
  go_enter Try.func101, Try.ntmps101
  go_wp2
  go_loopw [4, 5] (fun v i wr => ∃ k : Nat, k ≤ n ∧ i = .int .i64 (3 * (k : Int)) ∧ ∃ (g cap : Nat), v = .slice (some ⟨g, 0, none⟩) k cap ∧ wr.ownsRow w.heap.size 3 1 (.slice (some ⟨g, 0, none⟩) k cap) k (i64s (readL k s.data.toList)) ∧ Below w.heap.size w wr) (fun _ i _ => s.size + 1 - (intOf i).toNat)
  case atStart => exact ⟨0, Nat.zero_le _, rfl, _, _, rfl, World.ownsRow_made _ _ 0 (Nat.le_refl _) (Nat.zero_le _) rfl, (Below.refl _ _).alloc (Nat.le_refl _) _⟩
  case round =>
    obtain ⟨k, hk, rfl, g, cap, rfl, hown, hb⟩ := hrel
    by_cases hkt : k < n
    · have h3 : 3 * k + 3 ≤ s.size := by have := HS.out; omega
      have hx : Hid ((s.extract (3 * k) (3 * k + 3)).data.toList = (s.data.toList.drop (3 * k)).take 3) := by show _ = _; rw [Lib.extract_data]; congr 1; omega
      obtain ⟨m, hm, hml⟩ : ∃ m : Nat, Hid (m = numL ((s.data.toList.drop (3 * k)).take 3)) ∧ m ≤ 16777215 := ⟨_, rfl, numL3 _ (by simp; omega)⟩
      have HN : Hid (readL (k + 1) s.data.toList = readL k s.data.toList ++ [(m : Int) - 1]) := by show _ = _; rw [readL_snoc, hm.out]
      have hnum := Lib.hid (l02Of_any (s.extract (3 * k) (3 * k + 3)) wr (by simp [ByteArray.size_extract]; omega))
      rw [hx.out, ← hm.out] at hnum
      go_wp2_with (first
        | (go_at_call 102; refine hnum.out.mono ?_; rintro e w' ⟨rfl, rfl⟩)
        | (at_builtin; refine wpList_append_lies _ rfl _ _ 22 rfl w.heap.size 3 i0 (.int .i64 0) 1 8 Try.underlying22 hi hz0 hz1 hz2 rfl (by decide) _ _ _ rfl (hown.alloc _) ⟨wr.heap.size, 0, none⟩ 1 1 [.int .i64 ((m : Int) - 1)] rfl rfl (fun j u hu => World.news_of_block (heap_alloc_new _ _) j u hu) (by intro u hu; simp at hu; subst hu; rfl) (by decide) (by unfold maxLen; omega) (by omega) (by have := hb.size; simp; omega) _ rfl ?_; intro g2 cap2 w2 hown2 hgrow2 hlie2 hlt2))
      have hb2 : Below w.heap.size w w2 := (hb.alloc (by exact hb.size) _).grown hgrow2 (by have := hb.size; simp; omega) (fun j hj => (hown.lt j hj).1)
      clear hown hgrow2 hlie2 hlt2 hb
      go_roundw
      case rel => exact ⟨k + 1, by omega, by go_num, _, cap2, rfl, by rw [HN.out]; simpa [i64s] using hown2, hb2⟩
      case measure => simp [intOf]; omega
    · obtain rfl : k = n := by omega
      have h3 : ¬ 3 * k < s.size := by have := HS.out; omega
      go_wp2
      go_ret2
      exact ⟨_, cap, rfl, own_at hown, hb⟩

theorem l02ReadNumbers_bad (s : ByteArray) (w : World) (hs : s.size % 3 ≠ 0) (hn : s.size ≤ 50331648) :
    Calls Try.prog 101 #[.string s] w fun e w' => ∃ ao cap, e = .returned (.tuple #[.slice ao 0 cap, .bool false]) ∧ Below w.heap.size w w' := by
  have hm3 : (((s.size : Int) % 3 != 0)) = true := by simp; omega
  clear hs
  go_enter Try.func101, Try.ntmps101
  go_wp2
  go_ret2
  exact ⟨_, _, rfl, (Below.refl _ _).alloc (Nat.le_refl _) _⟩

def readNumR (l : List UInt8) : List Int × Int :=
  if 65536 < l.length then ([], 2) else if l.length % 3 ≠ 0 then ([], 3) else if 4096 < l.length / 3 then ([], 6) else (readL (l.length / 3) l, 0)
theorem readNumR_le (l : List UInt8) : (readNumR l).1.length ≤ 1048576 := by
  unfold readNumR
  split
  · simp
  · split
    · simp
    · split
      · simp
      · simp [length_readL]; omega

end Go.Proofs.Ytfabclhcceooaaa
