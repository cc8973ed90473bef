/-
  The walk of the law FnHash. Conditions: the tables stand, the library's error for bad syntax stands in its variable.
-/
import Derived.Test.YtfkpdinfoagfhaaDoorSha9
import Derived.Test.YtfkpdinfoagfhaaDoorRdHold
import Derived.Test.YtfkpdinfoagfhaaDoorBits
import Derived.Test.YtfkpdinfoagfhaaDoorCrc
import Derived.Test.YtfkpdinfoagfhaaDoorHashText
namespace Go.Proofs.YtfkpdinfoagfhaaDoor
open Go.ChangeShapes Go.WideShapes Go.ChangeAt Go.RowKit
set_option linter.unusedVariables false
set_option linter.unusedSimpArgs false
set_option maxRecDepth 100000

theorem nib_dig {n : Nat} (h : n < 16) : nibV (dig n) = n := by
  have H : ∀ n, n < 16 → nibN (dig n).toNat = n := by decide +kernel
  exact H n h
theorem hexOf_getD : ∀ (x : List UInt8) (i : Nat), i < x.length → (hexOf x).getD (2 * i) 0 = dig ((x.getD i 0).toNat / 16) ∧ (hexOf x).getD (2 * i + 1) 0 = dig ((x.getD i 0).toNat % 16)
  | [], i, h => absurd h (by simp)
  | a :: x, 0, _ => ⟨rfl, rfl⟩
  | a :: x, i + 1, h => by
    have := hexOf_getD x i (by simpa using h)
    have e : hexOf (a :: x) = dig (a.toNat / 16) :: dig (a.toNat % 16) :: hexOf x := rfl
    rw [e, show 2 * (i + 1) = 2 * i + 1 + 1 from by omega, List.getD_cons_succ, List.getD_cons_succ, show 2 * i + 1 + 1 + 1 = (2 * i + 1) + 1 + 1 from rfl, List.getD_cons_succ, List.getD_cons_succ, List.getD_cons_succ]
    exact this
theorem small_hex (x : List UInt8) : smallB (hexOf x) = true := by
  refine smallB_of fun i hi => ?_
  rw [length_hexOf] at hi
  obtain ⟨j, hj⟩ : ∃ j, i = 2 * j ∨ i = 2 * j + 1 := ⟨i / 2, by omega⟩
  have hb : (x.getD j 0).toNat < 256 := UInt8.toNat_lt _
  rcases hj with rfl | rfl
  · rw [(hexOf_getD x j (by omega)).1, nib_dig (by omega)]; omega
  · rw [(hexOf_getD x j (by omega)).2, nib_dig (by omega)]; omega
theorem dec_hex (x : List UInt8) : decN nibV (hexOf x) x.length = x := by
  apply List.ext_getElem
  · rw [length_decN]
  · intro i h1 h2
    have hb : (x.getD i 0).toNat < 256 := UInt8.toNat_lt _
    simp only [decN, List.getElem_map, List.getElem_range]
    rw [(hexOf_getD x i h2).1, (hexOf_getD x i h2).2, nib_dig (by omega), nib_dig (by omega), show 16 * ((x.getD i 0).toNat / 16) + (x.getD i 0).toNat % 16 = (x.getD i 0).toNat from by omega, List.getD_eq_getElem?_getD, List.getElem?_eq_getElem h2]
    simp
theorem read_written (x : List UInt8) (h : x.length = 32) : readHashR ⟨(hexOf x).toArray⟩ = (⟨x.toArray⟩, 0) := by
  have hs : (⟨(hexOf x).toArray⟩ : ByteArray).size = 64 := by rw [Lib.size_eq]; show (hexOf x).length = 64; rw [length_hexOf, h]
  rw [readHashR, if_neg (by omega), if_neg (by omega)]
  show (if smallB (hexOf x) = true then _ else _) = _
  rw [if_pos (small_hex x)]
  show ((⟨(decN nibV (hexOf x) 32).toArray⟩ : ByteArray), (0 : Int)) = _
  rw [← h, dec_hex]

set_option maxHeartbeats 4000000 in
theorem walk_FnHash {w : World} (a : Option Addr) (len cap : Nat) (l : List UInt8) (ha : At w a (u8s l)) (hl : l.length = len) (hs : len ≤ maxLen) (hT : Tabs w) (hE : ErrIn w) :
    Calls Tryd.prog 4 #[.slice a len cap] w fun e w' => e = .returned (.bool true) ∧ Below w.heap.size w w' := by
  have hs' := hs
  unfold maxLen at hs
  have HL := Lib.hid hl
  have HT := Lib.hid hT
  have HE := Lib.hid hE
  have HA := Lib.hid ha
  clear hl hT hE ha
  by_cases b1 : 1048576 < len
  · go_enter Tryd.func4, Tryd.ntmps4
    go_wp2
    go_ret
    exact ⟨rfl, Below.refl _ _⟩
  by_cases b2 : 65536 < len
  · have HR : Hid (hashR l = ⟨#[]⟩) := if_pos (by rw [HL.out]; exact b2)
    go_enter Tryd.func4, Tryd.ntmps4
    go_wp2_with fail
    refine (implHash_any a len cap l w HA.out HL.out hs' HT.out).mono ?_
    rintro e w1 ⟨rfl, hb1⟩
    rw [HR.out]
    go_wp2
    go_ret
    exact ⟨rfl, hb1⟩
  have HC : Hid (l.length ≤ 65536) := by show _ ≤ _; have := HL.out; omega
  obtain ⟨L, hLd⟩ : ∃ L : ByteArray, (⟨(sha l).toArray⟩ : ByteArray) = L := ⟨_, rfl⟩
  have HR : Hid (hashR l = L) := by show _ = _; rw [← hLd]; exact if_neg (by rw [HL.out]; exact b2)
  have HLS : Hid (L.size = 32) := by show _ = _; rw [← hLd, Lib.size_eq]; show (sha l).length = 32; exact length_sha l
  have hLs : L.size ≤ 32 := by rw [HLS.out]; exact Nat.le_refl _
  have HLL : Hid (L.data.toList = sha l) := by show _ = _; rw [← hLd]
  obtain ⟨T, hTd⟩ : ∃ T : ByteArray, (⟨(hexOf L.data.toList).toArray⟩ : ByteArray) = T := ⟨_, rfl⟩
  have HTT : Hid (hashTextR L = (T, 0)) := by
    show _ = _
    rw [hashTextR, if_neg (by omega), if_pos HLS.out, hTd]
  have HTS : Hid (T.size = 64) := by show _ = _; rw [← hTd, Lib.size_eq]; show (hexOf _).length = 64; rw [length_hexOf, HLL.out, length_sha]
  have hTs : T.size ≤ 64 := by rw [HTS.out]; exact Nat.le_refl _
  have HRR : Hid (readHashR T = (L, 0)) := by
    show _ = _
    rw [← hTd, read_written _ (by rw [HLL.out, length_sha]), HLL.out, hLd]
  obtain ⟨B, hBd⟩ : ∃ B : ByteArray, (⟨(bitsTo L 256).toArray⟩ : ByteArray) = B := ⟨_, rfl⟩
  have HBB : Hid (hashBitsR L = (B, 0)) := by
    show _ = _
    rw [hashBitsR, if_neg (by omega), if_pos HLS.out, hBd]
  have HBS : Hid (B.size = 256) := by show _ = _; rw [← hBd, Lib.size_eq]; show (bitsTo _ _).length = 256; exact length_bitsTo _ _
  have t1 : ((L.size : Int) == 32) = true := by rw [HLS.out]; rfl
  have t2 : ((T.size : Int) == 64) = true := by rw [HTS.out]; rfl
  have t3 : ((B.size : Int) == 256) = true := by rw [HBS.out]; rfl
  clear hLd hTd hBd
  go_enter Tryd.func4, Tryd.ntmps4
  go_wp2_with fail
  refine (implHash_any a len cap l w HA.out HL.out hs' HT.out).mono ?_
  rintro e w1 ⟨rfl, hb1⟩
  rw [HR.out]
  go_wp2_with fail
  refine (implHashText_any L w1 (by unfold maxLen; omega)).mono ?_
  rintro e w2 ⟨rfl, hb2⟩
  have HB2 : Below w.heap.size w w2 := hb1.trans (hb2.mono hb1.size)
  rw [HTT.out]
  clear hb1 hb2
  go_wp2_with fail
  refine (implReadHash_any T w2 (by unfold maxLen; omega) (HE.out.below HB2 (Nat.le_refl _))).mono ?_
  rintro e w3 ⟨rfl, hb3⟩
  have HB3 : Below w.heap.size w w3 := HB2.trans (hb3.mono HB2.size)
  rw [HRR.out]
  clear hb3 HB2
  go_wp2_with fail
  refine (implHashBits_any L w3 (by unfold maxLen; omega)).mono ?_
  rintro e w4 ⟨rfl, hb4⟩
  have HB4 : Below w.heap.size w w4 := HB3.trans (hb4.mono HB3.size)
  rw [HBB.out]
  clear hb4 HB3
  go_wp2_with fail
  refine (specHash_any a len cap l w4 (HA.out.below HB4 (Nat.le_refl _)) HL.out hs').mono ?_
  rintro e w5 ⟨rfl, hb5⟩
  have HB5 : Below w.heap.size w w5 := HB4.trans (hb5.mono HB4.size)
  rw [HR.out]
  clear hb5 HB4
  go_wp2_with fail
  refine (implCheck32_any a len cap l w5 (HA.out.below HB5 (Nat.le_refl _)) HL.out (by omega)).mono ?_
  rintro e w6 ⟨rfl, hb6⟩
  have HB6 : Below w.heap.size w w6 := HB5.trans (hb6.mono HB5.size)
  clear hb6 HB5
  go_wp2_with fail
  refine (specCheck32_any a len cap l w6 (HA.out.below HB6 (Nat.le_refl _)) HL.out (by omega)).mono ?_
  rintro e w7 ⟨rfl, rfl⟩
  go_wp2
  go_ret
  exact ⟨rfl, HB6⟩
theorem holds_FnHash {W : World} (h : laidMetH Tryd.prog Rows.fnHashRow.laid W) : Tabs W ∧ ErrIn W := by
  have h1 : laidMet Tryd.prog _ W := h
  have h4 := laid_tail (laid_tail (laid_tail (laid_tail h1)))
  have h5 := laid_tail h4
  exact ⟨⟨rnd_of (laid_tail h5), start_of h5⟩, errIn_of h4⟩
end Go.Proofs.YtfkpdinfoagfhaaDoor
