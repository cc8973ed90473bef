/-
  Contracts of the given program's functions that write hexadecimal digits. No condition.
-/
import Derived.Test.YtfkpdinfoagfhaaDoorL00
import Derived.Deep.AppendLies
import Derived.Deep.RegionLaw
import Derived.Laws.BitsLemmas
namespace Go.Proofs.YtfkpdinfoagfhaaDoor
open Go.ChangeShapes Go.WideShapes Go.ChangeAt Go.RowKit
set_option linter.unusedVariables false

/-- one digit -/
def dig (n : Nat) : UInt8 := if n < 10 then UInt8.ofNat (48 + n) else UInt8.ofNat (87 + n)
def hexOf (l : List UInt8) : List UInt8 := l.flatMap fun b => [dig (b.toNat / 16), dig (b.toNat % 16)]
theorem Tryd.info_u8 : (Tryd.prog.info? 5).map (fun i => (i.zero, i.size, i.bytes)) = some (some (.int .u8 0), 1, 1) := by kernel_rfl

def digs : ByteArray := { data := #[48, 49, 50, 51, 52, 53, 54, 55, 56, 57, 97, 98, 99, 100, 101, 102] }
theorem digs_at (n : Nat) (h : n < 16) : ({ data := #[48, 49, 50, 51, 52, 53, 54, 55, 56, 57, 97, 98, 99, 100, 101, 102] } : ByteArray)[n]'(by exact h) = dig n := by
  have h' : n ∈ List.range 16 := List.mem_range.2 h
  revert h
  revert n
  decide
theorem wrap_quo (c : Nat) (h : c ≤ 255) : IntKind.u8.wrap ((c : Int) / 16) = ((c / 16 : Nat) : Int) := by
  rw [IntWalk.u8_in _ (by omega)]; omega

theorem hexOf_snoc (s : ByteArray) (k : Nat) (h : k < s.size) : hexOf (s.data.toList.take (k + 1)) = hexOf (s.data.toList.take k) ++ [dig (s[k].toNat / 16), dig (s[k].toNat % 16)] := by
  rw [List.take_succ_eq_append_getElem (by simpa using h)]
  simp [hexOf, List.flatMap_append]
  exact ⟨rfl, rfl⟩
theorem length_hexOf (l : List UInt8) : (hexOf l).length = 2 * l.length := by
  induction l with
  | nil => rfl
  | cons a l ih => simp only [hexOf, List.flatMap_cons, List.length_append, List.length_cons, List.length_nil] at ih ⊢; omega

set_option maxHeartbeats 400000 in
theorem hashText_any (s : ByteArray) (w : World) (hs : s.size ≤ 70368744177664) :
    Calls Tryd.prog 24 #[.string s] w fun e w' => e = .returned (.string ⟨(hexOf s.data.toList).toArray⟩) ∧ Below w.heap.size w w' := by
  obtain ⟨i0, hi, hz0, hz1, hz2⟩ := info_parts Tryd.info_u8
  go_enter Tryd.func24, Tryd.ntmps24
  go_wp2_with (at_make; refine wpList_make_own _ rfl _ _ 22 rfl w.heap.size 5 i0 (.int .u8 0) 1 Tryd.underlying22 hi hz0 hz1 .i64 .i64 _ (2 * s.size) rfl rfl (by omega) (by rw [hz2]; omega) (by unfold maxLen; omega) (Nat.le_refl _) ?_; intro w0 hown0 hgrow0)
  go_loopw [3, 11] (fun v i wr => ∃ k : Nat, k ≤ s.size ∧ i = .int .i64 k ∧ ∃ g cap, v = .slice (some ⟨g, 0, none⟩) (2 * k) cap ∧ wr.ownsRow w.heap.size 5 1 (.slice (some ⟨g, 0, none⟩) (2 * k) cap) (2 * k) (u8s (hexOf (s.data.toList.take k))) ∧ Below w.heap.size w wr)
    (fun _ i _ => s.size - (intOf i).toNat)
  case atStart => exact ⟨0, Nat.zero_le _, rfl, _, _, rfl, hown0, (Below.refl _ _).grown hgrow0 (Nat.le_refl _) (fun _ h => by cases h)⟩
  case round =>
    obtain ⟨k, hk, rfl, g, cap, rfl, hown, hb⟩ := hrel
    by_cases hkt : k < s.size
    · have hc : (s[k].toNat : Int) ≤ 255 := by have := s[k].toNat_lt; omega
      have hc0 : (0 : Int) ≤ (s[k].toNat : Int) := by omega
      have hq : IntKind.u8.wrap ((s[k].toNat : Int) / 16) = (s[k].toNat : Int) / 16 := IntWalk.u8_in _ (by omega)
      have hq1 : (0 : Int) ≤ (s[k].toNat : Int) / 16 := by omega
      have hq2 : (s[k].toNat : Int) / 16 < 16 := by omega
      have hr1 : (0 : Int) ≤ (s[k].toNat : Int) % 16 := by omega
      have hr2 : (s[k].toNat : Int) % 16 < 16 := by omega
      have htm : bits BinOp.and IntKind.u8 (s[k].toNat : Int) 15 = (s[k].toNat : Int) % 16 := u8_and15 _ (by omega) (by omega)
      have hdg := digs_at
      have HN : Hid (hexOf (s.data.toList.take (k + 1)) = hexOf (s.data.toList.take k) ++ [dig (s[k].toNat / 16), dig (s[k].toNat % 16)]) := hexOf_snoc s k hkt
      go_wp2
      go_region_law (refine step_append_lies _ rfl (.tmp 14) (.tmp 25) 22 rfl w.heap.size 5 i0 (.int .u8 0) 1 1 Tryd.underlying22 hi hz0 hz1 hz2 rfl (by decide) _ _ _ (by simp [Act.eval]) (hown.drew.alloc _) ⟨wr.heap.size, 0, none⟩ 2 2 [.int .u8 ((dig ((s[k].toNat : Int) / 16).toNat).toNat : Int), .int .u8 ((dig ((s[k].toNat : Int) % 16).toNat).toNat : Int)] (by simp [Act.eval]) rfl (fun j u hu => World.news_of_block (heap_alloc_new _ _) j u hu) (by intro u hu; simp at hu; rcases hu with rfl | rfl <;> rfl) (by decide) (by unfold maxLen; omega) (by omega) (by have := hb.size; simp; omega) _ rfl ?_; intro g1 cap1 w1 hown1 hgrow1 hlie1 hlt1)
      all_goals
        have hb1 : Below w.heap.size w w1 := (hb.drew.alloc (by exact hb.size) _).grown hgrow1 (by have := hb.size; simp; omega) (fun j hj => (hown.lt j (by simpa using hj)).1)
        clear hown hgrow1 hlie1 hlt1 hb hq hq1 hq2 hr1 hr2 htm hdg
        go_wp2
        go_roundw
        case rel =>
          refine ⟨k + 1, by omega, by go_num, g1, cap1, rfl, ?_, hb1⟩
          rw [HN.out, u8s_append]
          exact hown1
        case measure => simp [intOf]; omega
    · have hkk : Hid (k = s.size) := by show k = s.size; omega
      have hcv := conv_at (P := Tryd.prog) 22 9 5 (2 * k) cap Tryd.underlying22 Tryd.underlying5 Tryd.underlying9 (own_at hown).at (by rw [length_hexOf]; simp; omega)
      go_wp2
      go_ret
      exact ⟨ret_str (by rw [hkk.out, List.take_of_length_le (by simp)]), hb⟩
end Go.Proofs.YtfkpdinfoagfhaaDoor
