/-
  The sums and bits of SHA-256's step as the machine's words have them. No program in sight. Conditions: words.
-/
import Derived.Test.YtfkpdinfoagfhaaDoorSha1
namespace Go.Proofs.YtfkpdinfoagfhaaDoor
open Go.ChangeShapes Go.WideShapes Go.ChangeAt Go.RowKit
set_option linter.unusedVariables false

theorem wrap_add (a b : Nat) : IntKind.u32.wrap ((a : Int) + (b : Int)) = ((add32 a b : Nat) : Int) := by
  rw [IntKind.wrap_u32, add32]; omega
theorem sg0_facts {x : Nat} (h : x < 4294967296) : ∃ t : Nat, bits .xor .u32 ((rotr x 7 : Nat) : Int) ((rotr x 18 : Nat) : Int) = (t : Int) ∧ bits .xor .u32 (t : Int) ((x : Int) / 8) = ((sg0 x : Nat) : Int) := by
  refine ⟨rotr x 7 ^^^ rotr x 18, u32_xor_nat _ _ (rotr_lt h) (rotr_lt h), ?_⟩
  rw [show (x : Int) / 8 = ((x / 8 : Nat) : Int) from by omega, u32_xor_nat _ _ (Nat.xor_lt_two_pow (n := 32) (rotr_lt h) (rotr_lt h)) (by omega)]; rfl
theorem sg1_facts {x : Nat} (h : x < 4294967296) : ∃ t : Nat, bits .xor .u32 ((rotr x 17 : Nat) : Int) ((rotr x 19 : Nat) : Int) = (t : Int) ∧ bits .xor .u32 (t : Int) ((x : Int) / 1024) = ((sg1 x : Nat) : Int) := by
  refine ⟨rotr x 17 ^^^ rotr x 19, u32_xor_nat _ _ (rotr_lt h) (rotr_lt h), ?_⟩
  rw [show (x : Int) / 1024 = ((x / 1024 : Nat) : Int) from by omega, u32_xor_nat _ _ (Nat.xor_lt_two_pow (n := 32) (rotr_lt h) (rotr_lt h)) (by omega)]; rfl
theorem bs1_facts {x : Nat} (h : x < 4294967296) : ∃ t : Nat, bits .xor .u32 ((rotr x 6 : Nat) : Int) ((rotr x 11 : Nat) : Int) = (t : Int) ∧ bits .xor .u32 (t : Int) ((rotr x 25 : Nat) : Int) = ((bs1 x : Nat) : Int) := by
  refine ⟨rotr x 6 ^^^ rotr x 11, u32_xor_nat _ _ (rotr_lt h) (rotr_lt h), ?_⟩
  rw [u32_xor_nat _ _ (Nat.xor_lt_two_pow (n := 32) (rotr_lt h) (rotr_lt h)) (rotr_lt h)]; rfl
theorem bs0_facts {x : Nat} (h : x < 4294967296) : ∃ t : Nat, bits .xor .u32 ((rotr x 2 : Nat) : Int) ((rotr x 13 : Nat) : Int) = (t : Int) ∧ bits .xor .u32 (t : Int) ((rotr x 22 : Nat) : Int) = ((bs0 x : Nat) : Int) := by
  refine ⟨rotr x 2 ^^^ rotr x 13, u32_xor_nat _ _ (rotr_lt h) (rotr_lt h), ?_⟩
  rw [u32_xor_nat _ _ (Nat.xor_lt_two_pow (n := 32) (rotr_lt h) (rotr_lt h)) (rotr_lt h)]; rfl
theorem and_lt {a b : Nat} (h : a < 4294967296) : a &&& b < 4294967296 := Nat.lt_of_le_of_lt Nat.and_le_left h
theorem ch_facts {e f g : Nat} (he : e < 4294967296) (hf : f < 4294967296) (hg : g < 4294967296) : ∃ t u v : Nat, bits .and .u32 (e : Int) (f : Int) = (t : Int) ∧ bits .xor .u32 4294967295 (e : Int) = (u : Int) ∧ bits .and .u32 (u : Int) (g : Int) = (v : Int) ∧ bits .or .u32 (t : Int) (v : Int) = ((ch e f g : Nat) : Int) ∧ bits .xor .u32 (t : Int) (v : Int) = ((ch e f g : Nat) : Int) := by
  have hu : 4294967295 ^^^ e < 4294967296 := Nat.xor_lt_two_pow (n := 32) (by decide) he
  refine ⟨e &&& f, 4294967295 ^^^ e, (4294967295 ^^^ e) &&& g, u32_and_nat _ _ he hf, ?_, u32_and_nat _ _ hu hg, ?_, ?_⟩
  · rw [show (4294967295 : Int) = ((4294967295 : Nat) : Int) from rfl, u32_xor_nat _ _ (by decide) he]
  · rw [u32_or_nat _ _ (and_lt he) (and_lt hu)]; rfl
  · rw [u32_xor_nat _ _ (and_lt he) (and_lt hu), ch_xor he]
theorem maj_facts {a b c : Nat} (ha : a < 4294967296) (hb : b < 4294967296) (hc : c < 4294967296) : ∃ t u v x y : Nat, bits .and .u32 (a : Int) (b : Int) = (t : Int) ∧ bits .and .u32 (a : Int) (c : Int) = (u : Int) ∧ bits .and .u32 (b : Int) (c : Int) = (v : Int) ∧ bits .or .u32 (t : Int) (u : Int) = (x : Int) ∧ bits .or .u32 (x : Int) (v : Int) = ((maj a b c : Nat) : Int) ∧ bits .xor .u32 (t : Int) (u : Int) = (y : Int) ∧ bits .xor .u32 (y : Int) (v : Int) = ((maj a b c : Nat) : Int) := by
  refine ⟨a &&& b, a &&& c, b &&& c, a &&& b ||| a &&& c, (a &&& b) ^^^ (a &&& c), u32_and_nat _ _ ha hb, u32_and_nat _ _ ha hc, u32_and_nat _ _ hb hc, u32_or_nat _ _ (and_lt ha) (and_lt ha), ?_, u32_xor_nat _ _ (and_lt ha) (and_lt ha), ?_⟩
  · rw [u32_or_nat _ _ (Nat.or_lt_two_pow (n := 32) (and_lt ha) (and_lt ha)) (and_lt hb)]; rfl
  · rw [u32_xor_nat _ _ (Nat.xor_lt_two_pow (n := 32) (and_lt ha) (and_lt ha)) (and_lt hb), maj_xor]
/-- four bytes joined to a word -/
theorem word_facts {l : List UInt8} {k y0 y1 y2 y3 : Nat} (h0 : (l.getD (4 * k) 0).toNat = y0) (h1 : (l.getD (4 * k + 1) 0).toNat = y1) (h2 : (l.getD (4 * k + 2) 0).toNat = y2) (h3 : (l.getD (4 * k + 3) 0).toNat = y3) : ∃ x0 x1 x2 z1 z2 : Nat, IntKind.u32.wrap (y0 : Int) = (y0 : Int) ∧ IntKind.u32.wrap (y1 : Int) = (y1 : Int) ∧ IntKind.u32.wrap (y2 : Int) = (y2 : Int) ∧ IntKind.u32.wrap (y3 : Int) = (y3 : Int) ∧ IntKind.u32.wrap ((y0 : Int) * 16777216) = (x0 : Int) ∧ IntKind.u32.wrap ((y1 : Int) * 65536) = (x1 : Int) ∧ IntKind.u32.wrap ((y2 : Int) * 256) = (x2 : Int) ∧ bits .or .u32 (x0 : Int) (x1 : Int) = (z1 : Int) ∧ bits .or .u32 (z1 : Int) (x2 : Int) = (z2 : Int) ∧ bits .or .u32 (z2 : Int) (y3 : Int) = ((word l k : Nat) : Int) := by
  have g0 : y0 < 256 := by rw [← h0]; exact UInt8.toNat_lt _
  have g1 : y1 < 256 := by rw [← h1]; exact UInt8.toNat_lt _
  have g2 : y2 < 256 := by rw [← h2]; exact UInt8.toNat_lt _
  have g3 : y3 < 256 := by rw [← h3]; exact UInt8.toNat_lt _
  have o1 : y0 * 16777216 ||| y1 * 65536 < 4294967296 := Nat.or_lt_two_pow (n := 32) (by omega) (by omega)
  have o2 : y0 * 16777216 ||| y1 * 65536 ||| y2 * 256 < 4294967296 := Nat.or_lt_two_pow (n := 32) o1 (by omega)
  refine ⟨y0 * 16777216, y1 * 65536, y2 * 256, y0 * 16777216 ||| y1 * 65536, y0 * 16777216 ||| y1 * 65536 ||| y2 * 256, ?_, ?_, ?_, ?_, ?_, ?_, ?_, u32_or_nat _ _ (by omega) (by omega), u32_or_nat _ _ o1 (by omega), ?_⟩
  iterate 7 (rw [IntKind.wrap_u32]; omega)
  rw [u32_or_nat _ _ o2 (by omega), word, h0, h1, h2, h3]
theorem sched_set {l : List UInt8} {k : Nat} (hk : k < 64) : (sched l k ++ List.replicate (64 - k) 0).set k (if k < 16 then word l k else nextW (sched l k) k) = sched l (k + 1) ++ List.replicate (64 - (k + 1)) 0 := by
  rw [show 64 - k = (64 - (k + 1)) + 1 from by omega, List.replicate_succ, List.set_append_right _ _ (by rw [length_sched]; omega), length_sched, Nat.sub_self, List.set_cons_zero, sched, List.append_assoc]; rfl
theorem sched_get {l : List UInt8} {k j : Nat} (hj : j < k) : (sched l k ++ List.replicate (64 - k) 0).getD j 0 = (sched l k).getD j 0 := by
  rw [List.getD_eq_getElem?_getD, List.getD_eq_getElem?_getD, List.getElem?_append_left (by rw [length_sched]; exact hj)]
theorem bytes_get (b : ByteArray) {p : Nat} (h : p < b.size) : (b.data.toList.getD p 0) = b[p] := by
  have h' : p < b.data.toList.length := by rw [Array.length_toList]; exact h
  rw [List.getD_eq_getElem?_getD, List.getElem?_eq_getElem h']; rfl
end Go.Proofs.YtfkpdinfoagfhaaDoor
