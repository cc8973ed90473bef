/-
  Contracts of the given program's NumbersBytes and of its reference, and of what they call. Conditions: bounds on what is handed in.
-/
import Derived.Test.YtfabclhcceooaaaBig
import Derived.Test.YtfabclhcceooaaaIn
import Derived.Test.YtfabclhcceooaaaLong
import Derived.Test.YtfabclhcceooaaaBuilder
import Derived.Test.YtfabclhcceooaaaShelf
namespace Go.Proofs.Ytfabclhcceooaaa
open Go.ChangeShapes Go.WideShapes Go.ChangeAt Go.RowKit
set_option linter.unusedVariables false
set_option maxRecDepth 20000

/-- a number that has an encoding in three bytes -/
def okNum (n : Int) : Bool := decide (-1 ≤ n) && decide (n ≤ 16777214)
def numsB (zs : List Int) : List UInt8 := zs.flatMap fun n => bigL (n + 1).toNat 3
theorem length_numsB (zs : List Int) : (numsB zs).length = 3 * zs.length := by
  induction zs with
  | nil => rfl
  | cons a l ih => simp only [numsB, List.flatMap_cons, List.length_append, length_bigL, List.length_cons] at ih ⊢; omega
theorem numsB_snoc (zs : List Int) (n : Int) : numsB (zs ++ [n]) = numsB zs ++ bigL (n + 1).toNat 3 := by simp [numsB]

set_option maxHeartbeats 400000 in
theorem l02Numbers_any (ao : Option Addr) (n c : Nat) (zs : List Int) (w : World) (ha : At w ao (i64s zs)) (hl : zs.length = n) (hn : n ≤ 16777216) (hok : zs.all okNum = true) :
    Calls Try.prog 95 #[.slice ao n c] w fun e w' => ∃ g cap, e = .returned (.slice (some ⟨g, 0, none⟩) (3 * n) cap) ∧ w'.ownsRow w.heap.size 5 1 (.slice (some ⟨g, 0, none⟩) (3 * n) cap) (3 * n) (u8s (numsB zs)) ∧ Below w.heap.size w w' := by
  obtain ⟨i0, hi, hz0, hz1, hz2⟩ := info_parts Try.info_i8
  have HL := Lib.hid hl
  have HOK := Lib.hid hok
  clear hl hok
  go_enter Try.func95, Try.ntmps95
  go_wp2
  go_loopw [3, 4] (fun v i wr => ∃ k : Nat, k ≤ n ∧ i = .int .i64 k ∧ ∃ g cap, v = .slice (some ⟨g, 0, none⟩) (3 * k) cap ∧ wr.ownsRow w.heap.size 5 1 (.slice (some ⟨g, 0, none⟩) (3 * k) cap) (3 * k) (u8s (numsB (zs.take k))) ∧ Below w.heap.size w wr) (fun _ i _ => n - (intOf i).toNat)
  case atStart => exact ⟨0, Nat.zero_le _, rfl, _, _, rfl, World.ownsRow_made _ _ 0 (Nat.le_refl _) (Nat.zero_le _) rfl, (Below.refl _ _).alloc (Nat.le_refl _) _⟩
  case round =>
    obtain ⟨k, hk, rfl, g, cap, rfl, hown, hb⟩ := hrel
    by_cases hkt : k < n
    · have hkz : k < zs.length := by have := HL.out; omega
      obtain ⟨b, off, rfl, hc⟩ := (ha.below hb (Nat.le_refl _)).get (i64s_ne hkz)
      have hcell : wr.cell? ⟨b, off + k, none⟩ = some (.int .i64 zs[k]) := by rw [hc k (by simpa [i64s] using hkz), i64s_get _ _ _ hkz]
      have hp : okNum zs[k] = true := List.all_eq_true.1 HOK.out _ (List.getElem_mem hkz)
      simp only [okNum, Bool.and_eq_true, decide_eq_true_eq] at hp
      obtain ⟨p1, p2⟩ := hp
      obtain ⟨m, hm, hml⟩ : ∃ m : Nat, zs[k] + 1 = (m : Int) ∧ m ≤ 16777215 := ⟨(zs[k] + 1).toNat, by omega, by omega⟩
      have HN : Hid (numsB (zs.take (k + 1)) = numsB (zs.take k) ++ bigL m 3) := by
        show _ = _
        rw [List.take_succ_eq_append_getElem hkz, numsB_snoc, hm]; rfl
      have i1 : (0 : Int) ≤ (k : Int) := by omega
      have i2 : (k : Int) < (n : Int) := by omega
      have HZ := Lib.hid hb.size
      clear hc ha
      go_wp2_with (first
        | (go_at_call 91; refine (l02Number_any m 3 _ (by omega) (by decide)).mono ?_; rintro e w1 ⟨g1, cap1, rfl, hown1, hb1⟩)
        | (at_builtin; refine wpList_append_lies _ rfl _ _ 58 rfl w.heap.size 5 i0 (.int .u8 0) 1 1 Try.underlying58 hi hz0 hz1 hz2 rfl (by decide) _ _ _ rfl (hown.kept (grownBy_of_below none hb1) (Or.inr (by simp [Value.ownBlock]))) ⟨g1, 0, none⟩ 3 cap1 (u8s (bigL m 3)) rfl (by simp [u8s, length_bigL]) (hown1.cells rfl) (u8s_one _) (by decide) (by unfold maxLen; omega) (by omega) (Nat.le_trans HZ.out hb1.size) _ rfl ?_; intro g2 cap2 w2 hown2 hgrow2 hlie2 hlt2))
      have hb2 : Below w.heap.size w w2 := (hb.trans (hb1.mono HZ.out)).grown hgrow2 (Nat.le_trans HZ.out hb1.size) (fun j hj => (hown.lt j hj).1)
      clear hown hgrow2 hlie2 hlt2 hb hown1 hb1
      go_roundw
      case rel => exact ⟨k + 1, by omega, by go_num, g2, cap2, rfl, by rw [HN.out, u8s_append]; exact hown2, hb2⟩
      case measure => simp [intOf]; omega
    · obtain rfl : k = n := by omega
      go_wp2
      go_ret
      exact ⟨g, cap, rfl, by have := hown; rw [List.take_of_length_le (by have := HL.out; omega)] at this; exact this, hb⟩

def numbersR (zs : List Int) : List UInt8 × Int := if 4096 < zs.length then ([], 2) else if zs.all okNum = true then (numsB zs, 0) else ([], 4)

theorem strCells_u8s (l : List UInt8) : Lib.strCells ⟨l.toArray⟩ = u8s l := by simp [Lib.strCells, u8s]

set_option maxHeartbeats 400000 in
theorem numbersOf_any (ao : Option Addr) (n c : Nat) (zs : List Int) (w : World) (ha : At w ao (i64s zs)) (hl : zs.length = n) (hn : n ≤ 16777216) (hok : zs.all okNum = true) :
    Calls Try.prog 97 #[.slice ao n c] w fun e w' => e = .returned (.string ⟨(numsB zs).toArray⟩) ∧ Below w.heap.size w w' := by
  have HL := Lib.hid hl
  have HOK := Lib.hid hok
  clear hl hok
  go_enter Try.func97, Try.ntmps97
  go_wp2
  go_loopw [8] (fun i wr => ∃ k : Nat, k ≤ n ∧ i = .int .i64 k ∧ Lib.IsBuilder 102 5 w.heap.size w.heap.size (u8s (numsB (zs.take k))) wr ∧ Below w.heap.size w wr ∧ w.heap.size < wr.heap.size) (fun i _ => n - (intOf i).toNat)
  case atStart => exact ⟨0, Nat.zero_le _, rfl, .inl ⟨Nat.le_refl _, _, heap_alloc_new w _, World.ownsRow_nil _ _ _ _, by simp [Value.ownBlock]⟩, (Below.refl _ _).alloc (Nat.le_refl _) _, by simp⟩
  case round =>
    obtain ⟨k, hk, rfl, hB, hb, hz⟩ := hrel
    by_cases hkt : k < n
    · have hkz : k < zs.length := by have := HL.out; omega
      obtain ⟨b, off, rfl, hc⟩ := (ha.below hb (Nat.le_refl _)).get (i64s_ne hkz)
      have hcell : wr.cell? ⟨b, off + k, none⟩ = some (.int .i64 zs[k]) := by rw [hc k (by simpa [i64s] using hkz), i64s_get _ _ _ hkz]
      have hp : okNum zs[k] = true := List.all_eq_true.1 HOK.out _ (List.getElem_mem hkz)
      simp only [okNum, Bool.and_eq_true, decide_eq_true_eq] at hp
      obtain ⟨p1, p2⟩ := hp
      obtain ⟨m, hm, hml⟩ : ∃ m : Nat, zs[k] + 1 = (m : Int) ∧ m ≤ 16777215 := ⟨(zs[k] + 1).toNat, by omega, by omega⟩
      have HN : Hid (numsB (zs.take (k + 1)) = numsB (zs.take k) ++ bigL m 3) := by
        show _ = _
        rw [List.take_succ_eq_append_getElem hkz, numsB_snoc, hm]; rfl
      have i1 : (0 : Int) ≤ (k : Int) := by omega
      have i2 : (k : Int) < (n : Int) := by omega
      have HS : Hid ((u8s (numsB (zs.take k))).length ≤ 50331648) := by show _ ≤ _; simp [u8s, length_numsB]; omega
      clear hc ha
      go_wp2_with (first
        | (go_at_call 93; refine (bigBytes_any m 3 _ (by omega) (by decide)).mono ?_; rintro e w1 ⟨rfl, hb1⟩)
        | (go_at_call 92; refine (writeString_any w.heap.size w.heap.size _ _ _ (isBuilder_below hB hb1 hz) (by have := HS.out; simp [ByteArray.size, length_bigL]; omega) (by have := hb1.size; omega)).mono ?_; rintro e w2 ⟨rfl, hB2, hb2⟩))
      go_roundw
      case rel =>
        refine ⟨k + 1, by omega, by go_num, ?_, (hb.trans (hb1.mono (by omega))).trans hb2, by have := hb1.size; have := hb2.size; omega⟩
        rw [HN.out, u8s_append, ← strCells_u8s (bigL m 3)]
        exact hB2
      case measure => simp [intOf]; omega
    · have hkk : Hid (k = n) := by show k = n; omega
      go_wp2_with (go_at_call 94; refine (Try.Builder_String_any w.heap.size w.heap.size (numsB (zs.take k)) _ hB (by omega)).mono ?_; rintro e w1 ⟨rfl, hb1⟩)
      go_ret
      exact ⟨ret_str (by rw [List.take_of_length_le (by have := HL.out; have := hkk.out; omega)]), hb.trans (hb1.mono (by omega))⟩

theorem numbersR_le (zs : List Int) : (numbersR zs).1.length ≤ 1048576 := by
  unfold numbersR
  split
  · simp
  · split
    · simp [length_numsB]; omega
    · simp

end Go.Proofs.Ytfabclhcceooaaa
