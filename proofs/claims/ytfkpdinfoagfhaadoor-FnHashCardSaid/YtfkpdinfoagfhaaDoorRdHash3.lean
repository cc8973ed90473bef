/-
  Contract of ReadHash of the given program, and the walk of the law FnExactReadHash. Conditions: the library's error for bad syntax stands in its variable.
-/
import Derived.Test.YtfkpdinfoagfhaaDoorRdHash2
import Derived.Test.YtfkpdinfoagfhaaDoorSlices
namespace Go.Proofs.YtfkpdinfoagfhaaDoor
open Go.ChangeShapes Go.WideShapes Go.ChangeAt Go.RowKit
set_option linter.unusedVariables false
set_option linter.unusedSimpArgs false
set_option maxRecDepth 100000

/-- the cells while they are filled -/
def rdC (l : List UInt8) (k : Nat) : List Value := u8s (decN dgV l k) ++ List.replicate (32 - k) (.int .u8 0)
theorem rdC_set (l : List UInt8) {k : Nat} (hk : k < 32) (n : Nat) (hn : 16 * dgV (l.getD (2 * k) 0) + dgV (l.getD (2 * k + 1) 0) = n) (h : n < 256) : (rdC l k).set k (.int .u8 (n : Int)) = rdC l (k + 1) := by
  unfold rdC
  rw [List.set_append_right _ _ (by rw [length_u8s, length_decN]; exact Nat.le_refl _), length_u8s, length_decN, Nat.sub_self, show 32 - k = (32 - (k + 1)) + 1 from by omega, List.replicate_succ, List.set_cons_zero, decN_succ, u8s_append, List.append_assoc, hn]
  simp only [u8s, List.map_cons, List.map_nil]
  rw [ofNat_small h]; rfl
theorem rdC_all (l : List UInt8) : rdC l 32 = u8s (decN dgV l 32) := by simp [rdC]
theorem rd_own_set {w : World} {base : Nat} {e : TypeId} {g n cap : Nat} {xs : List Value} (h : w.ownsRow base e 1 (.slice (some ⟨g, 0, none⟩) n cap) n xs) {k : Nat} (hk : k < n) (v : Value) :
    (w.setCell ⟨g, k, none⟩ v).ownsRow base e 1 (.slice (some ⟨g, 0, none⟩) n cap) n (xs.set k v) := by
  obtain ⟨hl, h | ⟨g', cap', cur, he, hb, hh, hn, hm, hs, ht⟩⟩ := h
  · cases h.1
  · simp only [Value.slice.injEq, Option.some.injEq, Addr.mk.injEq, and_true, true_and] at he
    obtain ⟨rfl, rfl⟩ := he
    refine ⟨by simpa using hl, .inr ⟨g, cap, cur.setIfInBounds k v, rfl, hb, by simp [World.setCell, Array.getElem?_modify, hh], hn, hm, by simpa using hs, ?_⟩⟩
    rw [← ht, Array.toList_setIfInBounds, List.take_set]
theorem rd_own_cell {w : World} {base : Nat} {e : TypeId} {g n cap : Nat} {xs : List Value} (h : w.ownsRow base e 1 (.slice (some ⟨g, 0, none⟩) n cap) n xs) {k : Nat} (hk : k < n) :
    (∃ v, w.cell? ⟨g, k, none⟩ = some v) ∧ w.frozen? ⟨g, k, none⟩ = false := by
  have hl : xs.length = n := by have := h.1; omega
  obtain ⟨b, off, he, _, hc⟩ := (own_at h).get (by intro e; subst e; simp at hl; omega)
  simp only [Option.some.injEq, Addr.mk.injEq, and_true] at he
  obtain ⟨rfl, rfl⟩ := he
  obtain ⟨h1, h2⟩ := hc k (by omega)
  rw [Nat.zero_add] at h1 h2
  exact ⟨⟨_, h1⟩, h2⟩
theorem cut_two (t : ByteArray) {p : Nat} (h : p + 2 ≤ t.size) : (t.extract p (p + 2)).size = 2 ∧ (t.extract p (p + 2)).data.toList.getD 0 0 = t.data.toList.getD p 0 ∧ (t.extract p (p + 2)).data.toList.getD 1 0 = t.data.toList.getD (p + 1) 0 := by
  refine ⟨by simp; omega, ?_, ?_⟩
  · rw [Lib.extract_data, show p + 2 - p = 2 from by omega, List.getD_eq_getElem?_getD, List.getElem?_take_of_lt (by decide), List.getElem?_drop, List.getD_eq_getElem?_getD]; rfl
  · rw [Lib.extract_data, show p + 2 - p = 2 from by omega, List.getD_eq_getElem?_getD, List.getElem?_take_of_lt (by decide), List.getElem?_drop, List.getD_eq_getElem?_getD]
theorem okN_two {l : List UInt8} : okN dgV l 2 ↔ dgV (l.getD 0 0) < 16 ∧ dgV (l.getD 1 0) < 16 := by
  constructor
  · exact fun h => ⟨h 0 (by decide), h 1 (by decide)⟩
  · rintro ⟨h0, h1⟩ i hi
    have : i = 0 ∨ i = 1 := by omega
    rcases this with rfl | rfl
    · exact h0
    · exact h1

set_option maxHeartbeats 4000000 in
theorem implReadHash_any (t : ByteArray) (w : World) (hs : t.size ≤ maxLen) (hE : ErrIn w) :
    Calls Tryd.prog 13 #[.string t] w fun e w' => e = .returned (.tuple #[.string (readHashR t).1, .int .i64 (readHashR t).2]) ∧ Below w.heap.size w w' := by
  obtain ⟨i0, hi, hz0, hz1, hz2⟩ := info_parts Tryd.info_u8
  unfold maxLen at hs
  have HI := Lib.hid (isLong_any (some ⟨w.heap.size, 0, none⟩) 1 1 [(t.size : Int)] (w.alloc (.cells #[.int .i64 t.size] 3)) (at_new _ _ _ _) rfl (by decide))
  have hbw : Below w.heap.size w (w.alloc (.cells #[.int .i64 t.size] 3)) := (Below.refl _ _).alloc (Nat.le_refl _) _
  have HE := Lib.hid hE
  clear hE
  by_cases h1 : 65536 < t.size
  · have H : Hid (readHashR t = (⟨#[]⟩, 2)) := if_pos h1
    have h2 : ([(t.size : Int)].any fun x => decide (65536 < x)) = true := by simp; omega
    go_enter Tryd.func13, Tryd.ntmps13
    go_wp2_with (go_at_call 22; refine HI.out.mono ?_; rw [h2]; rintro e w' ⟨rfl, rfl⟩)
    go_ret2
    exact ⟨by rw [H.out]; rfl, hbw⟩
  have h3 : ([(t.size : Int)].any fun x => decide (65536 < x)) = false := by simp; omega
  by_cases h2 : t.size = 64
  · have hL : t.data.toList.length = 64 := by rw [size_list]; exact h2
    have hne : ((t.size : Int) != 64) = false := by rw [h2]; rfl
    have HR : Hid (readHashR t = if smallB t.data.toList = true then (⟨(decN nibV t.data.toList 32).toArray⟩, 0) else (⟨#[]⟩, 3)) := by
      show _ = _
      rw [readHashR, if_neg h1, if_neg (by omega)]
    have HL := Lib.hid hL
    have hs1 : 64 ≤ t.size := by omega
    have hs2 : t.size ≤ 64 := by omega
    clear hL h1 h2 hs
    go_enter Tryd.func13, Tryd.ntmps13
    go_wp2_with (first
      | (go_at_call 22; refine HI.out.mono ?_; rw [h3]; rintro e w' ⟨rfl, rfl⟩; clear HI h3)
      | (at_make; (refine wpList_make_full _ rfl _ _ 22 rfl w.heap.size 5 i0 (.int .u8 0) 1 Tryd.underlying22 hi hz0 hz1 .i64 .i64 _ _ 32 rfl rfl rfl rfl (by rw [hz2]; omega) (by unfold maxLen; omega) hbw.size ?_; intro w1 hown1 hgrow1)))
    have HO1 : w1.ownsRow w.heap.size 5 1 (.slice (some ⟨w.heap.size + 1, 0, none⟩) 32 32) 32 (rdC t.data.toList 0) := by
      have h := hown1
      rw [show (madeCells (Value.cells (.int .u8 0)) (32 * 1)).toList = rdC t.data.toList 0 from by rw [Nat.mul_one]; exact made_one _ 32] at h
      simpa using h
    have HB1 : Below w.heap.size w w1 := hbw.grown hgrow1 hbw.size (fun _ h => by cases h)
    clear hown1 hgrow1 hbw
    obtain ⟨G, hG⟩ : ∃ G, w.heap.size + 1 = G := ⟨_, rfl⟩
    have hGl : w.heap.size ≤ G := by omega
    go_wp2_with fail
    rw [hG] at HO1 ⊢
    clear hG
    have HO := Lib.hid HO1
    clear HO1
    go_loopw [18] (fun i wr => ∃ k : Nat, k ≤ 32 ∧ i = .int .i64 k ∧ Hid (wr.ownsRow w.heap.size 5 1 (.slice (some ⟨G, 0, none⟩) 32 32) 32 (rdC t.data.toList k)) ∧ Hid (okN dgV t.data.toList (2 * k)) ∧ Hid (Below w.heap.size w wr)) (fun i _ => 32 - (intOf i).toNat)
    case atStart => exact ⟨0, Nat.zero_le _, rfl, HO, fun i hi => absurd hi (by omega), HB1⟩
    case round =>
      clear HO HB1
      obtain ⟨k, hk, rfl, HO, hok, HB⟩ := hrel
      by_cases hkt : k < 32
      · obtain ⟨S, hS⟩ : ∃ S, t.extract (2 * k) (2 * k + 2) = S := ⟨_, rfl⟩
        have hsl := fun wx => run_slice_nat (P := Tryd.prog) 9 Tryd.underlying9 t (2 * k) (2 * k + 2) (2 * (k : Int)) (2 * (k : Int) + 2) (by omega) (by omega) (by omega) (by omega) wx
        obtain ⟨z1, z2, z3⟩ := cut_two t (p := 2 * k) (by omega)
        rw [hS] at hsl z1 z2 z3
        have hw1 : IntKind.i64.wrap (2 * (k : Int)) = 2 * (k : Int) := by rw [IntKind.wrap_i64]; omega
        have hk1 : k + 1 ≤ 32 := hkt
        have LK : (k : Int) < 32 := by omega
        have HZ1 := Lib.hid z1
        by_cases hv : okN dgV S.data.toList 2
        · have HP := Lib.hid (fun wx => parse16_ok S wx z1 hv)
          obtain ⟨v0, v1⟩ := okN_two.1 hv
          have hn : numV S.data.toList 2 = 16 * dgV (S.data.toList.getD 0 0) + dgV (S.data.toList.getD 1 0) := by simp [numV]
          rw [z2, z3] at hn
          rw [z2] at v0
          rw [z3] at v1
          obtain ⟨N, hN⟩ : ∃ N, numV S.data.toList 2 = N := ⟨_, rfl⟩
          have hNl : N < 256 := by omega
          obtain ⟨⟨q1, c1⟩, f1⟩ := rd_own_cell HO.out hkt
          have HOK : Hid (okN dgV t.data.toList (2 * (k + 1))) := by
            intro i hi
            by_cases i0 : i = 2 * k
            · rw [i0]; exact v0
            · by_cases i1 : i = 2 * k + 1
              · rw [i1]; exact v1
              · exact hok.out i (by omega)
          have HSET : Hid (∀ wx : World, wx.ownsRow w.heap.size 5 1 (.slice (some ⟨G, 0, none⟩) 32 32) 32 (rdC t.data.toList k) → (wx.setCell ⟨G, k, none⟩ (.int .u8 (N : Int))).ownsRow w.heap.size 5 1 (.slice (some ⟨G, 0, none⟩) 32 32) 32 (rdC t.data.toList (k + 1))) := by
            intro wx h
            have := rd_own_set h hkt (.int .u8 (N : Int))
            rwa [rdC_set _ hkt N (by rw [← hN, hn]) hNl] at this
          rw [hN] at HP
          clear z1 z2 z3 v0 v1 hn hN hv hok c1 f1 hS
          go_wp2_with fail
          refine (HP.out _).mono ?_
          rintro e w2 ⟨rfl, hb2⟩
          have HO2 := HO.out.kept (grownBy_of_below none hb2) (Or.inr (by simp [Value.ownBlock]))
          obtain ⟨⟨q1, c1⟩, f1⟩ := rd_own_cell HO2 hkt
          have HO3 : Hid ((w2.setCell ⟨G, k, none⟩ (.int .u8 (N : Int))).ownsRow w.heap.size 5 1 (.slice (some ⟨G, 0, none⟩) 32 32) 32 (rdC t.data.toList (k + 1))) := HSET.out _ HO2
          have HB3 : Hid (Below w.heap.size w (w2.setCell ⟨G, k, none⟩ (.int .u8 (N : Int)))) := (HB.out.trans (hb2.mono HB.out.size)).setCell (p := ⟨G, k, none⟩) hGl _
          clear HO2 HO hb2 HB hsl HP HSET hkt
          go_wp2
          go_roundw
          case rel => exact ⟨k + 1, hk1, by go_num, HO3, HOK, HB3⟩
          case measure => simp [intOf]; omega
        · have HP := Lib.hid (fun wx hE => parse16_bad S wx z1 hv hE)
          have HEE : Hid (readHashR t = (⟨#[]⟩, 3)) := by
            show _ = _
            rw [HR.out, if_neg ?_]
            intro hs
            obtain ⟨hd, _⟩ := smallB_dg hs
            rw [HL.out] at hd
            exact hv (okN_two.2 ⟨by rw [z2]; exact hd _ (by omega), by rw [z3]; exact hd _ (by omega)⟩)
          have HER : Hid (ErrIn wr) := HE.out.below HB.out (Nat.le_refl _)
          clear z1 z2 z3 hv hok hS HO HR
          go_wp2_with fail
          refine (HP.out _ HER.out).mono ?_
          rintro e w2 ⟨⟨T, v, rfl⟩, hb2⟩
          have HB3 : Below w.heap.size w w2 := HB.out.trans (hb2.mono HB.out.size)
          clear hsl HP
          go_wp2
          go_ret2
          exact ⟨by rw [HEE.out]; rfl, HB3⟩
      · have hke : k = 32 := by omega
        rw [hke, rdC_all] at HO
        rw [hke] at hok
        obtain ⟨D, hD⟩ : ∃ D : ByteArray, (⟨(decN dgV t.data.toList 32).toArray⟩ : ByteArray) = D := ⟨_, rfl⟩
        have CV : ∀ wx, Below wr.heap.size wr wx → (convert 22 9 (.slice (some ⟨G, 0, none⟩) 32 32)).run Tryd.prog wx = .ok (.string D) wx := by
          intro wx hb
          rw [← hD]
          exact conv_at (P := Tryd.prog) 22 9 5 32 32 Tryd.underlying22 Tryd.underlying5 Tryd.underlying9 ((own_at HO.out).at.below hb (Nat.le_refl _)) (length_decN _ _ _)
        have hDs : D.size ≤ 32 := by rw [← hD, Lib.size_eq]; show (decN _ _ _).length ≤ 32; rw [length_decN]; exact Nat.le_refl _
        have HDL : Hid (D.data.toList = decN dgV t.data.toList 32) := by show _ = _; rw [← hD]
        have hag := hex_again (n := 32) HL.out hok.out
        have hcv := CV wr (Below.refl _ _)
        have HCV := Lib.hid CV
        have HHT := Lib.hid (hashText_any D wr (by omega))
        have q0 : decide ((k : Int) < 32) = false := decide_eq_false (by omega)
        have HBo := HB.out
        clear CV hok hkt hk hke
        by_cases hsm : smallB t.data.toList = true
        · have HX : Hid ((⟨(hexOf D.data.toList).toArray⟩ : ByteArray) = t) := by
            show _ = _
            rw [HDL.out, hag.2 hsm]
          have HEE : Hid (readHashR t = (D, 0)) := by
            show _ = _
            rw [HR.out, if_pos hsm, ← hD, ((smallB_dg hsm).2 32).resolve_right (by rw [HL.out]; omega)]
          clear hag hD HR hsm
          go_wp2_with fail
          refine HHT.out.mono ?_
          rintro e w2 ⟨rfl, hb2⟩
          rw [HX.out]
          have hcv2 := HCV.out w2 hb2
          clear hcv
          go_wp2
          go_ret2
          exact ⟨by rw [HEE.out]; rfl, HBo.trans (hb2.mono HBo.size)⟩
        · obtain ⟨X, hX⟩ : ∃ X : ByteArray, (⟨(hexOf D.data.toList).toArray⟩ : ByteArray) = X := ⟨_, rfl⟩
          have HX := Lib.hid hX
          have hne2 : X.data.toList ≠ t.data.toList := by
            rw [← hX]
            show hexOf D.data.toList ≠ _
            rw [HDL.out]
            exact fun h => hsm (hag.1 h)
          have hne3 : (X.toList == t.toList) = false := by rw [ByteArray.toList_eq, ByteArray.toList_eq]; exact beq_eq_false_iff_ne.2 hne2
          have hne4 : (X.toList != t.toList) = true := by unfold bne; rw [hne3]; rfl
          have HEE : Hid (readHashR t = (⟨#[]⟩, 3)) := by
            show _ = _
            rw [HR.out, if_neg hsm]
          clear hag hD HR hsm hX hne2
          go_wp2_with fail
          refine HHT.out.mono ?_
          rintro e w2 ⟨rfl, hb2⟩
          rw [HX.out]
          clear hcv
          go_wp2
          go_ret2
          exact ⟨by rw [HEE.out]; rfl, HBo.trans (hb2.mono HBo.size)⟩
  · have H : Hid (readHashR t = (⟨#[]⟩, 3)) := by show _ = _; rw [readHashR, if_neg h1, if_pos (by omega)]
    have hne : ((t.size : Int) != 64) = true := by simp; omega
    clear h2
    go_enter Tryd.func13, Tryd.ntmps13
    go_wp2_with (go_at_call 22; refine HI.out.mono ?_; rw [h3]; rintro e w' ⟨rfl, rfl⟩)
    go_ret2
    exact ⟨by rw [H.out]; rfl, hbw⟩
theorem walk_FnExactReadHash {w : World} (t : ByteArray) (hs : t.size ≤ maxLen) (hE : ErrIn w) :
    Calls Tryd.prog 7 #[.string t] w fun e w' => e = .returned (.bool true) ∧ Below w.heap.size w w' := by
  have hs' := hs
  unfold maxLen at hs'
  have HE := Lib.hid hE
  clear hE
  go_enter Tryd.func7, Tryd.ntmps7
  go_wp2_with (first | (go_at_call 20; refine (specReadHash_any _ _ hs).mono ?_; rintro e w1 ⟨rfl, hb1⟩) | (go_at_call 13; refine (implReadHash_any _ _ hs (HE.out.below hb1 (Nat.le_refl _))).mono ?_; rintro e w2 ⟨rfl, hb2⟩))
  · go_ret
    exact ⟨rfl, Below.refl _ _⟩
  · go_ret
    exact ⟨rfl, hb1.trans (hb2.mono hb1.size)⟩
end Go.Proofs.YtfkpdinfoagfhaaDoor
