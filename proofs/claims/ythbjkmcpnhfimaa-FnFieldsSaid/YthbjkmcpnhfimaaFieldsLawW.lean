/-
  The walk of the law FnFields of the given program. No condition.
-/
import Derived.Test.YthbjkmcpnhfimaaFields3
import Derived.Test.YthbjkmcpnhfimaaSource
import Derived.Test.YthbjkmcpnhfimaaAt
import Derived.Test.YthbjkmcpnhfimaaFieldsPlain
namespace Go.Proofs.Ythbjkmcpnhfimaa
open Go.ChangeShapes Go.WideShapes Go.ChangeAt Go.RowKit
set_option linter.unusedVariables false

/-- the contracts, where the code is known to be 0 -/
theorem implFieldsBytes_ok (ao : Option Addr) (n c : Nat) (zs : List ByteArray) (Z : List UInt8) (m : Nat) (w : World) (ha : At w ao (strs zs)) (hl : zs.length = n) (hn : n ≤ 1048576) (hz : ∀ s ∈ zs, s.size ≤ maxLen) (hF : fieldsR zs = (Z, 0)) (hm : Z.length = m) :
    Calls Try.prog 34 #[.slice ao n c] w fun e w' => ∃ ao' cap', e = .returned (.tuple #[.slice ao' m cap', .int .i64 0]) ∧ Mine w.heap.size w' ao' (u8s Z) ∧ Below w.heap.size w w' := by
  have := implFieldsBytes_any ao n c zs w ha hl hn hz
  rw [hF] at this
  subst hm
  exact this
theorem specFieldsBytes_ok (ao : Option Addr) (n c : Nat) (zs : List ByteArray) (Z : List UInt8) (m : Nat) (w : World) (ha : At w ao (strs zs)) (hl : zs.length = n) (hn : n ≤ 1048576) (hz : ∀ s ∈ zs, s.size ≤ maxLen) (hF : fieldsR zs = (Z, 0)) (hm : Z.length = m) :
    Calls Try.prog 32 #[.slice ao n c] w fun e w' => ∃ ao' cap', e = .returned (.tuple #[.slice ao' m cap', .int .i64 0]) ∧ Mine w.heap.size w' ao' (u8s Z) ∧ Below w.heap.size w w' := by
  have := specFieldsBytes_any ao n c zs w ha hl hn hz
  rw [hF] at this
  subst hm
  exact this
theorem implNumbersBytes_ok (ao : Option Addr) (n c : Nat) (zs : List Int) (Z : List UInt8) (m : Nat) (w : World) (ha : At w ao (i64s zs)) (hl : zs.length = n) (hn : n ≤ 16777216) (hF : numbersR zs = (Z, 0)) (hm : Z.length = m) :
    Calls Try.prog 25 #[.slice ao n c] w fun e w' => ∃ ao' cap', e = .returned (.tuple #[.slice ao' m cap', .int .i64 0]) ∧ Mine w.heap.size w' ao' (u8s Z) ∧ Below w.heap.size w w' := by
  have := implNumbersBytes_any ao n c zs w ha hl hn
  rw [hF] at this
  subst hm
  exact this
theorem specNumbersBytes_ok (ao : Option Addr) (n c : Nat) (zs : List Int) (Z : List UInt8) (m : Nat) (w : World) (ha : At w ao (i64s zs)) (hl : zs.length = n) (hn : n ≤ 16777216) (hF : numbersR zs = (Z, 0)) (hm : Z.length = m) :
    Calls Try.prog 23 #[.slice ao n c] w fun e w' => ∃ ao' cap', e = .returned (.tuple #[.slice ao' m cap', .int .i64 0]) ∧ Mine w.heap.size w' ao' (u8s Z) ∧ Below w.heap.size w w' := by
  have := specNumbersBytes_any ao n c zs w ha hl hn
  rw [hF] at this
  subst hm
  exact this
theorem implReadFields_ok (ao : Option Addr) (n c : Nat) (l : List UInt8) (zs : List ByteArray) (m : Nat) (k : Int) (w : World) (ha : At w ao (u8s l)) (hl : l.length = n) (hn : n ≤ 16777216) (hF : readFieldR l = (zs, k)) (hm : zs.length = m) :
    Calls Try.prog 27 #[.slice ao n c] w fun e w' => ∃ ao' cap', e = .returned (.tuple #[.slice ao' m cap', .int .i64 k]) ∧ Mine w.heap.size w' ao' (strs zs) ∧ Below w.heap.size w w' := by
  have := implReadFields_any ao n c l w ha hl hn
  rw [hF] at this
  subst hm
  exact this
theorem specReadFields_ok (ao : Option Addr) (n c : Nat) (l : List UInt8) (zs : List ByteArray) (m : Nat) (k : Int) (w : World) (ha : At w ao (u8s l)) (hl : l.length = n) (hn : n ≤ 16777216) (hF : readFieldR l = (zs, k)) (hm : zs.length = m) :
    Calls Try.prog 26 #[.slice ao n c] w fun e w' => ∃ ao' cap', e = .returned (.tuple #[.slice ao' m cap', .int .i64 k]) ∧ Mine w.heap.size w' ao' (strs zs) ∧ Below w.heap.size w w' := by
  have := specReadFields_any ao n c l w ha hl hn
  rw [hF] at this
  subst hm
  exact this
theorem implReadNumbers_ok (ao : Option Addr) (n c : Nat) (l : List UInt8) (zs : List Int) (m : Nat) (w : World) (ha : At w ao (u8s l)) (hl : l.length = n) (hn : n ≤ 16777216) (hF : readNumR l = (zs, 0)) (hm : zs.length = m) :
    Calls Try.prog 19 #[.slice ao n c] w fun e w' => ∃ ao' cap', e = .returned (.tuple #[.slice ao' m cap', .int .i64 0]) ∧ Mine w.heap.size w' ao' (i64s zs) ∧ Below w.heap.size w w' := by
  have := implReadNumbers_any ao n c l w ha hl hn
  rw [hF] at this
  subst hm
  exact this

theorem someTexts_le {s : ByteArray} (h : s ∈ someTexts) : s.size ≤ 4 := by
  simp only [someTexts, List.mem_cons, List.not_mem_nil, or_false] at h
  rcases h with rfl | rfl | rfl | rfl <;> decide
theorem fldB_some (zs : List ByteArray) (h : ∀ s ∈ zs, s ∈ someTexts) : (fldB zs).length ≤ 6 * zs.length := by
  induction zs with
  | nil => simp [fldB]
  | cons s zs ih =>
    have h1 := someTexts_le (h s (by simp))
    have h2 := ih fun x hx => h x (by simp [hx])
    have e : fldB (s :: zs) = (bigL s.size 2 ++ s.data.toList) ++ fldB zs := by simp [fldB]
    have e2 : s.data.toList.length = s.size := size_list s
    rw [e, List.length_append, List.length_append, length_bigL, e2, List.length_cons]
    omega
theorem fields_some (zs : List ByteArray) (h : ∀ s ∈ zs, s ∈ someTexts) (hn : zs.length ≤ 5) : ∃ Z m, fieldsR zs = (Z, 0) ∧ readFieldR Z = (zs, 0) ∧ Z.length = m ∧ m ≤ 31 := by
  have hl : (fieldsL zs).length ≤ 31 := by
    have := fldB_some zs h
    simp only [fieldsL, List.length_cons]; omega
  refine ⟨fieldsL zs, _, ?_, readFieldR_fieldsL zs (by omega) (fun s hs => by have := someTexts_le (h s hs); omega) (by omega), rfl, hl⟩
  have hany : ¬ (zs.any fun s => decide (20000 < s.size)) = true := by
    rw [List.any_eq_true]
    rintro ⟨s, hs, hh⟩
    have := someTexts_le (h s hs)
    simp at hh; omega
  rw [fieldsR, if_neg (by omega), if_neg (by omega), if_neg hany, if_neg (by omega)]

theorem readFieldR_small (l : List UInt8) (zs : List ByteArray) (h : readFieldR l = (zs, 0)) : ∀ s ∈ zs, s.size ≤ 20000 := by
  rw [readFieldR] at h
  split at h
  · cases h
  · cases hF : fieldsF ⟨l.toArray⟩ with
    | none => rw [hF] at h; cases h
    | some ys =>
      rw [hF] at h
      obtain rfl : ys = zs := by cases h; rfl
      rw [fieldsF] at hF
      split at hF
      · rename_i h0
        split at hF
        · cases hF
        · exact (fR_back _ _ _ _ h0 hF).1
      · cases hF

def numsAt (l : List UInt8) (k : Nat) : List Int := (List.range k).map fun j => (atV l (j + 1) 70000 : Int) * 200 - 1
theorem length_numsAt (l : List UInt8) (k : Nat) : (numsAt l k).length = k := by simp [numsAt]
theorem numsAt_snoc (l : List UInt8) (k : Nat) : numsAt l (k + 1) = numsAt l k ++ [(atV l (k + 1) 70000 : Int) * 200 - 1] := by simp [numsAt, List.range_succ]
theorem numbers_at (l : List UInt8) (k : Nat) (hk : k ≤ 9) : ∃ Z m, numbersR (numsAt l k) = (Z, 0) ∧ readNumR Z = (numsAt l k, 0) ∧ Z.length = m ∧ m ≤ 27 := by
  have hall : (numsAt l k).all okNum = true := by
    rw [List.all_eq_true]
    intro x hx
    simp only [numsAt, List.mem_map] at hx
    obtain ⟨j, _, rfl⟩ := hx
    have := atV_lt l (j + 1) 70000 (by omega)
    simp only [okNum, Bool.and_eq_true, decide_eq_true_eq]
    omega
  have hL := length_numsAt l k
  refine ⟨numsB (numsAt l k), _, ?_, readNumR_numsB _ hall (by omega), rfl, by rw [length_numsB]; omega⟩
  rw [numbersR, if_neg (by omega), if_pos hall]

theorem at_int (ao : Option Addr) (len cap : Nat) (l : List UInt8) (w : World) (i n v : Nat) (x y : Int) (ha : At w ao (u8s l)) (hl : l.length = len) (hs : len ≤ 1048576) (hi : i ≤ 1048576) (hn : n ≤ 1048576) (hx : x = (i : Int)) (hy : y = (n : Int)) (hv : atV l i n = v) :
    Calls Try.prog 37 #[.slice ao len cap, .int .i64 x, .int .i64 y] w fun e w' => e = .returned (.int .i64 (v : Int)) ∧ Below w.heap.size w w' := by
  subst hx hy hv
  exact at_any ao len cap l w i n ha hl hs hi hn

set_option maxHeartbeats 2000000 in
theorem walk_FnFields (w : World) (a : Option Addr) (len cap : Nat) (l : List UInt8) (ha : At w a (u8s l)) (hl : l.length = len) (hs : len ≤ maxLen)
    (a' : Option Addr) (len' cap' : Nat) (l' : List UInt8) (ha' : At w a' (u8s l')) (hl' : l'.length = len') (hs' : len' ≤ maxLen) :
    Calls Try.prog 9 #[.slice a len cap, .slice a' len' cap'] w fun e w' => e = .returned (.bool true) ∧ Below w.heap.size w w' := by
  unfold maxLen at hs hs'
  have HL := Lib.hid hl
  have HL' := Lib.hid hl'
  clear hl hl'
  by_cases h1 : 1048576 < len
  · go_enter Try.func9, Try.ntmps9
    go_wp2
    go_ret
    exact ⟨rfl, Below.refl _ _⟩
  have i1 : (len : Int) ≤ 1048576 := by omega
  by_cases h2 : 1048576 < len'
  · go_enter Try.func9, Try.ntmps9
    go_wp2
    go_ret
    exact ⟨rfl, Below.refl _ _⟩
  have i2 : (len' : Int) ≤ 1048576 := by omega
  go_enter Try.func9, Try.ntmps9
  go_wp2_with fail
  refine (textsOf_any w a len cap l ha HL.out (by omega)).mono ?_
  rintro e w1 ⟨g, n, c, zs, rfl, hzl, hn5, hin, hmine, hb1⟩
  have hz1 := hb1.size
  have B1 : Below w.heap.size w w1 := hb1
  have s_l := Sl.of hmine
  obtain ⟨Z, m, hF, hB, hm, hm31⟩ := fields_some zs hin (by omega)
  have HZ := Lib.hid hzl
  have HIN : Hid (∀ s ∈ zs, s.size ≤ maxLen) := fun s hs => by have := someTexts_le (hin s hs); unfold maxLen; omega
  have HF := Lib.hid hF
  have HB := Lib.hid hB
  have HM := Lib.hid hm
  clear hzl hin hF hB hm hmine
  go_wp2_with fail
  refine (implFieldsBytes_ok _ n c zs Z m _ s_l.at HZ.out (by omega) HIN.out HF.out HM.out).mono ?_
  rintro e w2 ⟨a_b, c_b, rfl, h_b, hb2⟩
  have hz2 := hb2.size
  replace s_l := s_l.below hb2 (by omega)
  have B2 : Below w.heap.size w w2 := B1.trans (hb2.mono (by omega))
  have s_b := Sl.of h_b
  go_wp2_with fail
  refine (specFieldsBytes_ok _ n c zs Z m _ s_l.at HZ.out (by omega) HIN.out HF.out HM.out).mono ?_
  rintro e w3 ⟨a_w, c_w, rfl, h_w, hb3⟩
  have hz3 := hb3.size
  replace s_l := s_l.below hb3 (by omega)
  replace s_b := s_b.below hb3 (by omega)
  have B3 : Below w.heap.size w w3 := B2.trans (hb3.mono (by omega))
  have s_w := Sl.of h_w
  go_wp2_with fail
  refine (implReadFields_ok a_b m c_b Z zs n 0 _ s_b.at HM.out (by omega) HB.out HZ.out).mono ?_
  rintro e w4 ⟨a_r, c_r, rfl, h_r, hb4⟩
  have hz4 := hb4.size
  replace s_l := s_l.below hb4 (by omega)
  replace s_b := s_b.below hb4 (by omega)
  replace s_w := s_w.below hb4 (by omega)
  have B4 : Below w.heap.size w w4 := B3.trans (hb4.mono (by omega))
  have s_r := Sl.of h_r
  have cv1 := conv_at (P := Try.prog) 22 9 5 m c_b Try.underlying22 Try.underlying5 Try.underlying9 s_b.at HM.out
  have cv2 := conv_at (P := Try.prog) 22 9 5 m c_w Try.underlying22 Try.underlying5 Try.underlying9 s_w.at HM.out
  go_wp2_with fail
  refine (sameTexts_same a_r _ n c_r c zs _ s_r.at s_l.at HZ.out (by unfold maxLen; omega)).mono ?_
  rintro e w5 ⟨rfl, hb5⟩
  have B5 : Below w.heap.size w w5 := B4.trans (hb5.mono (by omega))
  have hz5 : w.heap.size ≤ w5.heap.size := B5.size
  clear cv1 cv2 s_r s_w s_b s_l h_r h_w h_b hb1 hb2 hb3 hb4 hb5 B1 B2 B3 B4 hz1 hz2 hz3 hz4 HF HB HM HZ HIN
  obtain ⟨q, hq⟩ : ∃ q, q = atV l' 0 9 := ⟨_, rfl⟩
  have hq9 : q < 9 := by rw [hq]; exact atV_lt _ _ _ (by omega)
  have HQ := Lib.hid hq
  clear hq
  obtain ⟨i0, hi, hz0, hz1, hz2⟩ := info_parts Try.info_i64
  go_wp2_with fail
  have hown0 : (w5.alloc (.cells #[] 3)).ownsRow w5.heap.size 3 1 (.slice (some ⟨w5.heap.size, 0, none⟩) 0 0) 0 [] := World.ownsRow_made _ _ 0 (Nat.le_refl _) (Nat.zero_le _) rfl
  go_loopw [12, 13] (fun v i wr => ∃ k g cap2 : Nat, k ≤ q ∧ i = .int .i64 (k : Int) ∧ v = .slice (some ⟨g, 0, none⟩) k cap2 ∧ wr.ownsRow w5.heap.size 3 1 (.slice (some ⟨g, 0, none⟩) k cap2) k (i64s (numsAt l' k)) ∧ Below w.heap.size w wr) (fun _ i _ => q - (intOf i).toNat)
  case atStart => exact ⟨0, _, 0, Nat.zero_le _, rfl, rfl, hown0, B5.alloc hz5 _⟩
  case round =>
    obtain ⟨k, g1, cap2, hk, rfl, rfl, hown, hB⟩ := hrel
    clear hown0 B5
    have hzr : w.heap.size ≤ wr.heap.size := hB.size
    obtain ⟨hg1, hg2⟩ := hown.lt g1 rfl
    go_wp2_with fail
    refine (at_int a' len' cap' l' wr 0 9 q 0 9 (ha'.below hB (Nat.le_refl _)) HL'.out (by omega) (by omega) (by omega) rfl rfl HQ.out.symm).mono ?_
    rintro e wa ⟨rfl, hba⟩
    have hza := hba.size
    have BA : Below w.heap.size w wa := hB.trans (hba.mono (by omega))
    have hownA := hown.kept (grownBy_of_below none hba) (Or.inr (by simp [Value.ownBlock]))
    clear hown hB hba
    by_cases hkt : k < q
    · obtain ⟨x, hx⟩ : ∃ x, x = atV l' (k + 1) 70000 := ⟨_, rfl⟩
      have hx7 : x < 70000 := by rw [hx]; exact atV_lt _ _ _ (by omega)
      have HX := Lib.hid hx
      clear hx
      go_wp2_with fail
      refine (at_int a' len' cap' l' wa (k + 1) 70000 x _ 70000 (ha'.below BA (Nat.le_refl _)) HL'.out (by omega) (by omega) (by omega) (by simp) rfl HX.out.symm).mono ?_
      rintro e wb ⟨rfl, hbb⟩
      have hzb := hbb.size
      have BB : Below w.heap.size w wb := BA.trans (hbb.mono (by omega))
      have hownB := hownA.kept (grownBy_of_below none hbb) (Or.inr (by simp [Value.ownBlock]))
      clear hownA BA hbb
      go_wp2_with (at_builtin; (refine wpList_append_lies _ rfl _ _ 31 rfl w5.heap.size 3 i0 (.int .i64 0) 1 8 Try.underlying31 hi hz0 hz1 hz2 rfl (by decide) _ _ _ rfl (hownB.alloc _) ⟨wb.heap.size, 0, none⟩ 1 1 [.int .i64 ((x : Int) * 200 - 1)] rfl rfl (fun j u hu => World.news_of_block (heap_alloc_new _ _) j u hu) (by intro u hu; simp at hu; subst hu; rfl) (by decide) (by unfold maxLen; omega) (by omega) (by simp; omega) _ rfl ?_; intro g3 cap3 w3 hown3 hgrow3 hlie3 hlt3))
      have HO : Hid (w3.ownsRow w5.heap.size 3 1 (.slice (some ⟨g3, 0, none⟩) (k + 1) cap3) (k + 1) (i64s (numsAt l' (k + 1)))) := by
        have e : i64s (numsAt l' (k + 1)) = i64s (numsAt l' k) ++ [.int .i64 ((x : Int) * 200 - 1)] := by rw [numsAt_snoc, ← HX.out]; simp [i64s]
        show World.ownsRow _ _ _ _ _ _ _
        rw [e]; exact hown3
      have B3 : Below w.heap.size w w3 := (BB.alloc BB.size _).grown hgrow3 (by simp; omega) (by intro k2 hk2; cases hk2; exact Nat.le_trans hz5 hg1)
      clear hown3 hgrow3 hlie3 hlt3 hownB BB
      go_roundw
      case rel => exact ⟨k + 1, g3, cap3, by omega, by go_num, rfl, HO.out, B3⟩
      case measure => simp [intOf]; omega
    · obtain ⟨Y, p, hY, hYB, hp, hp27⟩ := numbers_at l' k (by omega)
      have HY := Lib.hid hY
      have HYB := Lib.hid hYB
      have HP := Lib.hid hp
      have HN : Hid ((numsAt l' k).length = k) := length_numsAt l' k
      have s_n := Sl.of (own_at hownA)
      clear hY hYB hp hownA
      go_wp2_with fail
      refine (implNumbersBytes_ok _ k cap2 (numsAt l' k) Y p _ s_n.at HN.out (by omega) HY.out HP.out).mono ?_
      rintro e w6 ⟨a_x, c_x, rfl, h_x, hb6⟩
      have hz6 := hb6.size
      replace s_n := s_n.below hb6 (by omega)
      have B6 : Below w.heap.size w w6 := BA.trans (hb6.mono (by omega))
      have s_x := Sl.of h_x
      go_wp2_with fail
      refine (specNumbersBytes_ok _ k cap2 (numsAt l' k) Y p _ s_n.at HN.out (by omega) HY.out HP.out).mono ?_
      rintro e w7 ⟨a_t, c_t, rfl, h_t, hb7⟩
      have hz7 := hb7.size
      replace s_n := s_n.below hb7 (by omega)
      replace s_x := s_x.below hb7 (by omega)
      have B7 : Below w.heap.size w w7 := B6.trans (hb7.mono (by omega))
      have s_t := Sl.of h_t
      go_wp2_with fail
      refine (implReadNumbers_ok a_x p c_x Y (numsAt l' k) k _ s_x.at HP.out (by omega) HYB.out HN.out).mono ?_
      rintro e w8 ⟨a_y, c_y, rfl, h_y, hb8⟩
      have hz8 := hb8.size
      replace s_n := s_n.below hb8 (by omega)
      replace s_x := s_x.below hb8 (by omega)
      replace s_t := s_t.below hb8 (by omega)
      have B8 : Below w.heap.size w w8 := B7.trans (hb8.mono (by omega))
      have s_y := Sl.of h_y
      have cv1 := conv_at (P := Try.prog) 22 9 5 p c_x Try.underlying22 Try.underlying5 Try.underlying9 s_x.at HP.out
      have cv2 := conv_at (P := Try.prog) 22 9 5 p c_t Try.underlying22 Try.underlying5 Try.underlying9 s_t.at HP.out
      go_wp2_with fail
      refine (sameInts_same a_y _ k c_y cap2 (numsAt l' k) _ s_y.at s_n.at HN.out (by unfold maxLen; omega)).mono ?_
      rintro e w9 ⟨rfl, hb9⟩
      have B9 : Below w.heap.size w w9 := B8.trans (hb9.mono (by omega))
      have hz9 : w.heap.size ≤ w9.heap.size := B9.size
      clear cv1 cv2 s_n s_x s_t s_y h_x h_t h_y hb6 hb7 hb8 hb9 B6 B7 B8 BA hz6 hz7 hz8 HY HYB HP HN hza
      obtain ⟨zz, cc, hrf⟩ : ∃ zz cc, readFieldR l' = (zz, cc) := ⟨_, _, rfl⟩
      have HRF := Lib.hid hrf
      have hz20 : zz.length ≤ 1048576 := by have := readFieldR_le l'; rw [hrf] at this; exact this
      obtain ⟨r, hr⟩ : ∃ r, zz.length = r := ⟨_, rfl⟩
      have hr2 : r ≤ 1048576 := by omega
      have HR := Lib.hid hr
      clear hrf hz20 hr
      go_wp2_with fail
      refine (implReadFields_ok a' len' cap' l' zz r cc _ (ha'.below B9 (Nat.le_refl _)) HL'.out (by omega) HRF.out HR.out).mono ?_
      rintro e w10 ⟨a_z, c_z, rfl, h_z, hb10⟩
      have hz10 := hb10.size
      have B10 : Below w.heap.size w w10 := B9.trans (hb10.mono (by omega))
      have s_z := Sl.of h_z
      go_wp2_with fail
      refine (specReadFields_ok a' len' cap' l' zz r cc _ (ha'.below B10 (Nat.le_refl _)) HL'.out (by omega) HRF.out HR.out).mono ?_
      rintro e w11 ⟨a_v, c_v, rfl, h_v, hb11⟩
      have hz11 := hb11.size
      replace s_z := s_z.below hb11 (by omega)
      have B11 : Below w.heap.size w w11 := B10.trans (hb11.mono (by omega))
      clear h_v h_z hb11 hb10 B10 B9
      by_cases hc : cc = 0
      · subst hc
        have HF : Hid (fieldsR zz = (l', 0)) := fieldsR_read l' zz HRF.out
        have HZS : Hid (∀ s ∈ zz, s.size ≤ maxLen) := fun s hs => by have := readFieldR_small l' zz HRF.out s hs; unfold maxLen; omega
        go_wp2_with fail
        refine (implFieldsBytes_ok a_z r c_z zz l' len' _ s_z.at HR.out (by omega) HZS.out HF.out HL'.out).mono ?_
        rintro e w12 ⟨a_u, c_u, rfl, h_u, hb12⟩
        have B12 : Below w.heap.size w w12 := B11.trans (hb12.mono (by omega))
        have cv1 := conv_at (P := Try.prog) 22 9 5 len' c_u Try.underlying22 Try.underlying5 Try.underlying9 h_u.at HL'.out
        have cv2 := conv_at (P := Try.prog) 22 9 5 len' cap' Try.underlying22 Try.underlying5 Try.underlying9 (ha'.below B12 (Nat.le_refl _)) HL'.out
        go_wp2_with fail
        go_ret
        exact ⟨rfl, B12⟩
      · have hc1 : (cc != 0) = true := by simpa using hc
        have hc2 : (cc == 0) = false := by simpa using hc
        clear hc
        go_wp2_with fail
        go_ret
        exact ⟨rfl, B11⟩
end Go.Proofs.Ythbjkmcpnhfimaa
