/-
  The walk of the law FnHmac. Conditions: the tables stand.
-/
import Derived.Test.YtfkpdinfoagfhaaDoorSha9
import Derived.Test.YtfkpdinfoagfhaaDoorSrcBytes
import Derived.Deep.RegionHeld
namespace Go.Proofs.YtfkpdinfoagfhaaDoor
open Go.ChangeShapes Go.WideShapes Go.ChangeAt Go.RowKit
set_option linter.unusedVariables false
set_option linter.unusedSimpArgs false
set_option maxRecDepth 100000

theorem hmacKey_twice (k : List UInt8) : hmacKey (hmacKey k) = hmacKey k := by
  have h := hmacKey_le k
  generalize hmacKey k = j at *
  unfold hmacKey
  rw [if_neg (by omega)]
theorem hmacL_short (k k' m : List UInt8) (h : k' = hmacKey k) : hmacL k' m = hmacL k m := by
  unfold hmacL
  rw [h, hmacKey_twice]
theorem hash_small (ao : Option Addr) (len cap : Nat) (l : List UInt8) (w : World) (ha : At w ao (u8s l)) (hl : l.length = len) (hs : len ≤ 65536) (hT : Tabs w) :
    Calls Tryd.prog 10 #[.slice ao len cap] w fun e w' => e = .returned (.string ⟨(sha l).toArray⟩) ∧ Below w.heap.size w w' := by
  have h := implHash_any ao len cap l w ha hl (by unfold maxLen; omega) hT
  rw [show hashR l = ⟨(sha l).toArray⟩ from if_neg (by omega)] at h
  exact h
theorem hmac_small (key msg : ByteArray) (w : World) (hk : key.size ≤ 65536) (hm : msg.size ≤ 65536) (hT : Tabs w) :
    Calls Tryd.prog 18 #[.string key, .string msg] w fun e w' => e = .returned (.tuple #[.string ⟨(hmacL key.data.toList msg.data.toList).toArray⟩, .int .i64 0]) ∧ Below w.heap.size w w' := by
  have h := implHmac_any key msg w (by unfold maxLen; omega) (by unfold maxLen; omega) hT
  rw [show hmacR key msg = (⟨(hmacL key.data.toList msg.data.toList).toArray⟩, 0) from if_neg (by omega)] at h
  exact h
theorem spec_hmac_small (key msg : ByteArray) (w : World) (hk : key.size ≤ 65536) (hm : msg.size ≤ 65536) :
    Calls Tryd.prog 17 #[.string key, .string msg] w fun e w' => e = .returned (.tuple #[.string ⟨(hmacL key.data.toList msg.data.toList).toArray⟩, .int .i64 0]) ∧ Below w.heap.size w w' := by
  have h := specHmac_any key msg w (by unfold maxLen; omega) (by unfold maxLen; omega)
  rw [show hmacR key msg = (⟨(hmacL key.data.toList msg.data.toList).toArray⟩, 0) from if_neg (by omega)] at h
  exact h

set_option maxHeartbeats 8000000 in
theorem walk_FnHmac {w : World} (a : Option Addr) (len cap : Nat) (l : List UInt8) (ha : At w a (u8s l)) (hl : l.length = len) (hs : len ≤ maxLen) (a2 : Option Addr) (len2 cap2 : Nat) (l2 : List UInt8) (ha2 : At w a2 (u8s l2)) (hl2 : l2.length = len2) (hs2 : len2 ≤ maxLen) (hS : Start w) (hR : Rnd w) :
    Calls Tryd.prog 6 #[.slice a len cap, .slice a2 len2 cap2] w fun e w' => e = .returned (.bool true) ∧ Below w.heap.size w w' := by
  obtain ⟨i0, hi, hz0, hz1, hz2⟩ := info_parts Tryd.info_i8
  unfold maxLen at hs hs2
  have HT : Hid (Tabs w) := ⟨hR, hS⟩
  clear hR hS
  by_cases b1 : 1048576 < len
  · go_enter Tryd.func6, Tryd.ntmps6
    go_wp2
    go_ret
    exact ⟨rfl, Below.refl _ _⟩
  have d1 : decide (1048576 < (len : Int)) = false := by simp; omega
  by_cases b2 : 1048576 < len2
  · have d2 : decide (1048576 < (len2 : Int)) = true := by simp; omega
    go_enter Tryd.func6, Tryd.ntmps6
    go_wp2
    go_ret
    exact ⟨rfl, Below.refl _ _⟩
  have d2 : decide (1048576 < (len2 : Int)) = false := by simp; omega
  have HO1 := Lib.hid (bytesOf_any w a len cap 90 l ha hl (by omega) (by decide))
  have HA2 := Lib.hid ha2
  have HL2 := Lib.hid hl2
  clear ha hl ha2 hl2 b1
  go_enter Tryd.func6, Tryd.ntmps6
  go_wp2_with fail
  refine HO1.out.mono ?_
  rintro e w1 ⟨g1, m1, c1, k1, rfl, hk1, hm1, hmi1, hb1⟩
  obtain ⟨key, hkey⟩ : ∃ key : ByteArray, (⟨k1.toArray⟩ : ByteArray) = key := ⟨_, rfl⟩
  have cv1 := conv_at (P := Tryd.prog) 22 9 5 m1 c1 Tryd.underlying22 Tryd.underlying5 Tryd.underlying9 hmi1.at hk1
  rw [hkey] at cv1
  have hks : key.size ≤ 90 := by rw [← hkey, Lib.size_eq]; show k1.length ≤ 90; omega
  have HB1 : Below w.heap.size w w1 := hb1
  clear hkey hmi1 hk1 hb1 HO1
  have HC2 := Lib.hid (bytesOf_any w1 a2 len2 cap2 90 l2 (HA2.out.below HB1 (Nat.le_refl _)) HL2.out (by omega) (by decide))
  clear b2
  go_wp2_with fail
  clear cv1
  refine HC2.out.mono ?_
  rintro e w2 ⟨g2, m2, c2, k2, rfl, hk2, hm2, hmi2, hb2⟩
  obtain ⟨msg, hmsg⟩ : ∃ msg : ByteArray, (⟨k2.toArray⟩ : ByteArray) = msg := ⟨_, rfl⟩
  have cv2 := conv_at (P := Tryd.prog) 22 9 5 m2 c2 Tryd.underlying22 Tryd.underlying5 Tryd.underlying9 hmi2.at hk2
  rw [hmsg] at cv2
  have hms : msg.size ≤ 90 := by rw [← hmsg, Lib.size_eq]; show k2.length ≤ 90; omega
  have HB2 : Below w.heap.size w w2 := HB1.trans (hb2.mono HB1.size)
  clear hmsg hmi2 hk2 hb2 HC2 HB1
  go_wp2_with fail
  clear cv2
  refine (hmac_small key msg w2 (by omega) (by omega) (HT.out.below HB2)).mono ?_
  rintro e w3 ⟨rfl, hb3⟩
  have HB3 : Below w.heap.size w w3 := HB2.trans (hb3.mono HB2.size)
  clear hb3 HB2
  go_wp2_with fail
  refine (spec_hmac_small key msg w3 (by omega) (by omega)).mono ?_
  rintro e w4 ⟨rfl, hb4⟩
  have HB4 : Below w.heap.size w w4 := HB3.trans (hb4.mono HB3.size)
  clear hb4 HB3
  obtain ⟨M, hM⟩ : ∃ M : ByteArray, (⟨(hmacL key.data.toList msg.data.toList).toArray⟩ : ByteArray) = M := ⟨_, rfl⟩
  rw [hM]
  have HM : Hid (M = ⟨(hmacL key.data.toList msg.data.toList).toArray⟩) := hM.symm
  have HMS : Hid (M.size = 32) := by
    show _ = _
    rw [← hM, Lib.size_eq]; show (hmacL _ _).length = 32
    unfold hmacL; exact length_sha _
  have dm : ((M.size : Int) != 32) = false := by rw [HMS.out]; rfl
  clear hM
  by_cases hbig : 64 < key.size
  · obtain ⟨cp, ob, hcv, HMINE⟩ := bytes_conv (P := Tryd.prog) 9 22 5 key key.size rfl Tryd.underlying9 Tryd.underlying22 Tryd.underlying5
    go_wp2_with fail
    refine (hash_small (some ⟨w4.heap.size, 0, none⟩) key.size (cp w4) key.data.toList (w4.alloc (ob w4)).drew ((HMINE.out w4 w4.heap.size (Nat.le_refl _)).at) (size_list key) (by omega) (HT.out.below (HB4.alloc HB4.size (ob w4)).drew)).mono ?_
    rintro e w5 ⟨rfl, hb5⟩
    have HB5 : Below w.heap.size w w5 := (HB4.alloc HB4.size (ob w4)).drew.trans (hb5.mono (by show w.heap.size ≤ (w4.alloc (ob w4)).heap.size; have := HB4.size; simp; omega))
    obtain ⟨K, hK⟩ : ∃ K : ByteArray, (⟨(sha key.data.toList).toArray⟩ : ByteArray) = K := ⟨_, rfl⟩
    have hKs : K.size ≤ 64 := by rw [← hK, Lib.size_eq]; show (sha _).length ≤ 64; rw [length_sha]; omega
    have HK : Hid (K.data.toList = hmacKey key.data.toList) := by
      show _ = _
      rw [← hK, hmacKey, if_pos (by rw [size_list]; exact hbig)]
    rw [hK]
    clear hK hb5 hcv HMINE HB4
    go_wp2_with fail
    refine (hmac_small K msg w5 (by omega) (by omega) (HT.out.below HB5)).mono ?_
    rintro e W ⟨rfl, hb6⟩
    have HB : Below w.heap.size w W := HB5.trans (hb6.mono HB5.size)
    rw [hmacL_short key.data.toList K.data.toList msg.data.toList HK.out, ← HM.out]
    clear hb6 HB5
    have tok : Hid True := trivial
    go_wp2_with (first
      | (at_make; clear tok; (refine wpList_make_full _ rfl _ _ 22 rfl w.heap.size 5 i0 (.int .u8 0) 1 Tryd.underlying22 hi hz0 hz1 .i64 .i64 _ _ 64 rfl rfl rfl rfl (by rw [hz2]; omega) (by unfold maxLen; omega) HB.size ?_; intro w6 hown1 hgrow1))
      | (at_make; (refine wpList_make_full _ rfl _ _ 22 rfl w.heap.size 5 i0 (.int .u8 0) 1 Tryd.underlying22 hi hz0 hz1 .i64 .i64 _ _ 64 rfl rfl rfl rfl (by rw [hz2]; omega) (by unfold maxLen; omega) (Nat.le_trans HB.size hgrow1.size) ?_; intro w7 hown2 hgrow2)))
    have hmd : ∀ m : UInt8, (madeCells (Value.cells (.int .u8 0)) (64 * 1)).toList = padC K.data.toList m 0 := fun m => by
      rw [Nat.mul_one]; exact made_one _ 64
    have g1l : W.heap.size < w6.heap.size := (hown1.lt W.heap.size rfl).2
    have HO1 : Hid (w7.ownsRow w.heap.size 5 1 (.slice (some ⟨W.heap.size, 0, none⟩) 64 64) 64 (padC K.data.toList 54 0)) := by
      rw [← hmd 54]; exact hown1.kept hgrow2 (Or.inr (by simp [Value.ownBlock]))
    have HO2 : Hid (w7.ownsRow w.heap.size 5 1 (.slice (some ⟨w6.heap.size, 0, none⟩) 64 64) 64 (padC K.data.toList 92 0)) := by
      rw [← hmd 92]; exact hown2
    have HB2 : Hid (Below w.heap.size w w7) := (HB.grown hgrow1 HB.size (fun _ h => by cases h)).grown hgrow2 (Nat.le_trans HB.size hgrow1.size) (fun _ h => by cases h)
    obtain ⟨g1, hg1⟩ : ∃ g, W.heap.size = g := ⟨_, rfl⟩
    obtain ⟨g2, hg2⟩ : ∃ g, w6.heap.size = g := ⟨_, rfl⟩
    have hl1 : w.heap.size ≤ g1 := by rw [← hg1]; exact HB.size
    rw [hg1] at HO1 g1l ⊢
    rw [hg2] at HO2 g1l ⊢
    have hne : Hid (g1 ≠ g2) := by show _ ≠ _; omega
    have hl2 : w.heap.size ≤ g2 := by omega
    clear hown1 hown2 hgrow1 hgrow2 hmd HB hg1 hg2
    go_wp2
    go_loopw [16] (fun i wr => ∃ j : Nat, j ≤ 64 ∧ i = .int .i64 j ∧ Hid (wr.ownsRow w.heap.size 5 1 (.slice (some ⟨g1, 0, none⟩) 64 64) 64 (padC K.data.toList 54 j)) ∧ Hid (wr.ownsRow w.heap.size 5 1 (.slice (some ⟨g2, 0, none⟩) 64 64) 64 (padC K.data.toList 92 j)) ∧ Hid (Below w.heap.size w wr)) (fun i _ => 64 - (intOf i).toNat)
    case atStart => exact ⟨0, Nat.zero_le _, rfl, HO1, HO2, HB2⟩
    case round =>
      clear HO1 HO2 HB2
      obtain ⟨j, hj, rfl, HO1, HO2, HBr⟩ := hrel
      by_cases hj64 : j < 64
      · obtain ⟨⟨q1, c1⟩, f1⟩ := own_cell HO1.out hj64
        obtain ⟨⟨q2, c2⟩, f2⟩ := own_cell HO2.out hj64
        have LK : (j : Int) < 64 := by omega
        have STEP : ∀ x : UInt8, K.data.toList.getD j 0 = x → Hid (((wr.setCell ⟨g1, j, none⟩ (.int .u8 ((x ^^^ 54).toNat : Int))).setCell ⟨g2, j, none⟩ (.int .u8 ((x ^^^ 92).toNat : Int))).ownsRow w.heap.size 5 1 (.slice (some ⟨g1, 0, none⟩) 64 64) 64 (padC K.data.toList 54 (j + 1))) ∧ Hid (((wr.setCell ⟨g1, j, none⟩ (.int .u8 ((x ^^^ 54).toNat : Int))).setCell ⟨g2, j, none⟩ (.int .u8 ((x ^^^ 92).toNat : Int))).ownsRow w.heap.size 5 1 (.slice (some ⟨g2, 0, none⟩) 64 64) 64 (padC K.data.toList 92 (j + 1))) ∧ Hid (Below w.heap.size w ((wr.setCell ⟨g1, j, none⟩ (.int .u8 ((x ^^^ 54).toNat : Int))).setCell ⟨g2, j, none⟩ (.int .u8 ((x ^^^ 92).toNat : Int)))) ∧ (wr.setCell ⟨g1, j, none⟩ (.int .u8 ((x ^^^ 54).toNat : Int))).cell? ⟨g2, j, none⟩ = some q2 := by
          rintro x rfl
          have a1 := own_set HO1.out hj64 (.int .u8 ((K.data.toList.getD j 0 ^^^ 54).toNat : Int))
          rw [padC_set _ _ hj64] at a1
          have a2 := own_set (own_two HO2.out hne.out.symm j (.int .u8 ((K.data.toList.getD j 0 ^^^ 54).toNat : Int))) hj64 (.int .u8 ((K.data.toList.getD j 0 ^^^ 92).toNat : Int))
          rw [padC_set _ _ hj64] at a2
          refine ⟨own_two a1 hne.out j _, a2, (HBr.out.setCell (p := ⟨g1, j, none⟩) hl1 _).setCell (p := ⟨g2, j, none⟩) hl2 _, ?_⟩
          rw [World.cell?_setCell_other _ _ _ _ (by intro e; injection e with e; exact hne.out e)]
          exact c2
        by_cases hjk : j < K.size
        · obtain ⟨S1, S2, S3, c3⟩ := STEP K[j] (bytes_get K hjk)
          have x1 : bits .xor .u8 (K[j].toNat : Int) 54 = ((K[j] ^^^ 54).toNat : Int) := u8_xor K[j] 54
          have x2 : bits .xor .u8 (K[j].toNat : Int) 92 = ((K[j] ^^^ 92).toNat : Int) := u8_xor K[j] 92
          clear STEP
          generalize ((K[j] ^^^ 54).toNat : Int) = v1 at *
          generalize ((K[j] ^^^ 92).toNat : Int) = v2 at *
          go_wp2
          go_roundw
          case rel => exact ⟨j + 1, by omega, by go_num, S1, S2, S3⟩
          case measure => simp [intOf]; omega
        · obtain ⟨S1, S2, S3, c3⟩ := STEP 0 (by rw [List.getD_eq_getElem?_getD, List.getElem?_eq_none (by rw [size_list]; omega)]; rfl)
          have x1 : bits .xor .u8 0 54 = 54 := xor_zero_facts.1
          have x2 : bits .xor .u8 0 92 = 92 := xor_zero_facts.2
          rw [show (((0 : UInt8) ^^^ 54).toNat : Int) = 54 from rfl] at S1 S2 S3 c3
          rw [show (((0 : UInt8) ^^^ 92).toNat : Int) = 92 from rfl] at S1 S2 S3
          clear STEP
          go_wp2
          go_roundw
          case rel => exact ⟨j + 1, by omega, by go_num, S1, S2, S3⟩
          case measure => simp [intOf]; omega
      · have hj64e : j = 64 := by omega
        rw [hj64e, padC_all] at HO1 HO2
        clear hj64e hj
        have HFIN : Hid (hmacL key.data.toList msg.data.toList = sha (padX K.data.toList 92 64 ++ sha (padX K.data.toList 54 64 ++ msg.data.toList))) := by
          show _ = _
          rw [hmacL, ← HK.out]
        obtain ⟨O, hO⟩ : ∃ O : ByteArray, (⟨(padX K.data.toList 92 64).toArray⟩ : ByteArray) = O := ⟨_, rfl⟩
        obtain ⟨I, hI⟩ : ∃ I : ByteArray, (⟨(padX K.data.toList 54 64).toArray⟩ : ByteArray) = I := ⟨_, rfl⟩
        have CV : ∀ wx, Below wr.heap.size wr wx → (convert 22 9 (.slice (some ⟨g1, 0, none⟩) 64 64)).run Tryd.prog wx = .ok (.string I) wx ∧ (convert 22 9 (.slice (some ⟨g2, 0, none⟩) 64 64)).run Tryd.prog wx = .ok (.string O) wx := by
          intro wx hb
          rw [← hO, ← hI]
          exact ⟨conv_at (P := Tryd.prog) 22 9 5 64 64 Tryd.underlying22 Tryd.underlying5 Tryd.underlying9 ((own_at HO1.out).at.below hb (Nat.le_refl _)) (length_padX _ _ _), conv_at (P := Tryd.prog) 22 9 5 64 64 Tryd.underlying22 Tryd.underlying5 Tryd.underlying9 ((own_at HO2.out).at.below hb (Nat.le_refl _)) (length_padX _ _ _)⟩
        have HCV := Lib.hid CV
        have CU := CV wr.drew (Below.refl _ _).drew
        have HI : Hid (I.data.toList = padX K.data.toList 54 64) := by show _ = _; rw [← hI]
        have HO : Hid (O.data.toList = padX K.data.toList 92 64) := by show _ = _; rw [← hO]
        have hIs : I.size ≤ 64 := by rw [← size_list, HI.out, length_padX]; exact Nat.le_refl _
        have hOs : O.size ≤ 64 := by rw [← size_list, HO.out, length_padX]; exact Nat.le_refl _
        have him : (I ++ msg).size ≤ 1000 := by rw [ByteArray.size_append]; omega
        have HIM : Hid ((I ++ msg).data.toList = padX K.data.toList 54 64 ++ msg.data.toList) := by show _ = _; rw [ByteArray.data_append, Array.toList_append, HI.out]
        obtain ⟨mI, hmI⟩ : ∃ m, (I ++ msg).size = m := ⟨_, rfl⟩
        obtain ⟨cpI, obI, hcvI, HMI⟩ := bytes_conv (P := Tryd.prog) 9 22 5 (I ++ msg) mI hmI Tryd.underlying9 Tryd.underlying22 Tryd.underlying5
        have HmI : Hid ((I ++ msg).data.toList.length = mI) := by show _ = _; rw [size_list]; exact hmI
        have him2 : mI ≤ 1000 := by omega
        clear CV hO hI hmI
        go_wp2_with fail
        go_region_held (fun w' => (convert 22 9 (.slice (some ⟨g1, 0, none⟩) 64 64)).run Tryd.prog w' = .ok (.string I) w' ∧ (convert 22 9 (.slice (some ⟨g2, 0, none⟩) 64 64)).run Tryd.prog w' = .ok (.string O) w') (first | exact CU | exact HCV.out _ ((Below.refl _ _).drew.drew.alloc (Nat.le_refl _) _) | exact HCV.out _ ((Below.refl _ _).drew.alloc (Nat.le_refl _) _) | exact HCV.out _ ((Below.refl _ _).drew.alloc (Nat.le_refl _) _).drew | exact CW | exact CX | exact HCV.out _ ((HBR4.out.drew.alloc HBR4.out.size _)) | exact HCV.out _ ((HBR4.out.alloc HBR4.out.size _)).drew | fail)
          (first
          | (have _nd := HB4; go_at_call 10; refine (hash_small _ _ _ (O ++ S).data.toList _ (HMO.out w4 w4.heap.size (Nat.le_refl _)).at HmO.out (by omega) (HT.out.below (HB4.out.alloc HB4.out.size (obO w4)).drew)).mono ?_; rintro e w5 ⟨rfl, hb5⟩; rw [show (⟨(sha (O ++ S).data.toList).toArray⟩ : ByteArray) = M from by rw [HM.out, HFIN.out, ByteArray.data_append, Array.toList_append, HO.out, HS.out, HIM.out]]; have HB5 : Below w.heap.size w w5 := ((HB4.out.alloc HB4.out.size (obO w4)).drew.trans (hb5.mono (by show w.heap.size ≤ (w4.alloc (obO w4)).heap.size; have := HB4.out.size; simp; omega))); have CX := HCV.out w5 ((HBR4.out.alloc HBR4.out.size (obO w4)).drew.trans (hb5.mono (by show wr.heap.size ≤ (w4.alloc (obO w4)).heap.size; have := HBR4.out.size; simp; omega))))
          | (go_at_call 10; refine (hash_small _ _ _ (I ++ msg).data.toList _ (HMI.out wr.drew wr.heap.size (Nat.le_refl _)).at HmI.out (by omega) (HT.out.below (HBr.out.drew.alloc HBr.out.size (obI wr.drew)).drew)).mono ?_; rintro e w4 ⟨rfl, hb4⟩; have HBR4 : Hid (Below wr.heap.size wr w4) := ((Below.refl wr.heap.size wr).drew.alloc (Nat.le_refl _) (obI wr.drew)).drew.trans (hb4.mono (by show wr.heap.size ≤ (wr.alloc (obI wr.drew)).heap.size; simp)); have HB4 : Hid (Below w.heap.size w w4) := HBr.out.trans (HBR4.out.mono HBr.out.size); have CW := HCV.out w4 HBR4.out; obtain ⟨S, hS⟩ : ∃ S : ByteArray, (⟨(sha (I ++ msg).data.toList).toArray⟩ : ByteArray) = S := ⟨_, rfl⟩; rw [hS]; have HS : Hid (S.data.toList = sha (I ++ msg).data.toList) := (by show _ = _; rw [← hS]); have hSs : S.size ≤ 32 := (by rw [← size_list, HS.out, length_sha]; exact Nat.le_refl _); obtain ⟨mO, hmO⟩ : ∃ m, (O ++ S).size = m := ⟨_, rfl⟩; obtain ⟨cpO, obO, hcvO, HMO⟩ := bytes_conv (P := Tryd.prog) 9 22 5 (O ++ S) mO hmO Tryd.underlying9 Tryd.underlying22 Tryd.underlying5; have HmO : Hid ((O ++ S).data.toList.length = mO) := (by show _ = _; rw [size_list]; exact hmO); have hmO2 : mO ≤ 1000 := (by have h := ByteArray.size_append (a := O) (b := S); omega); clear hS hb4 hmO)
          | fail)
        clear CX CU CW hcvI hcvO
        go_wp2
        go_ret
        exact ⟨rfl, HB5⟩
  · have HK : Hid (key.data.toList = hmacKey key.data.toList) := by
      show _ = _
      rw [hmacKey, if_neg (by rw [size_list]; exact hbig)]
    have hKs : key.size ≤ 64 := by omega
    obtain ⟨w5, rfl⟩ : ∃ w5 : World, w5 = w4 := ⟨_, rfl⟩
    have HB5 := HB4
    clear HB4
    go_wp2_with fail
    refine (hmac_small key msg w5 (by omega) (by omega) (HT.out.below HB5)).mono ?_
    rintro e W ⟨rfl, hb6⟩
    have HB : Below w.heap.size w W := HB5.trans (hb6.mono HB5.size)
    rw [hmacL_short key.data.toList key.data.toList msg.data.toList HK.out, ← HM.out]
    clear hb6 HB5
    have tok : Hid True := trivial
    go_wp2_with (first
      | (at_make; clear tok; (refine wpList_make_full _ rfl _ _ 22 rfl w.heap.size 5 i0 (.int .u8 0) 1 Tryd.underlying22 hi hz0 hz1 .i64 .i64 _ _ 64 rfl rfl rfl rfl (by rw [hz2]; omega) (by unfold maxLen; omega) HB.size ?_; intro w6 hown1 hgrow1))
      | (at_make; (refine wpList_make_full _ rfl _ _ 22 rfl w.heap.size 5 i0 (.int .u8 0) 1 Tryd.underlying22 hi hz0 hz1 .i64 .i64 _ _ 64 rfl rfl rfl rfl (by rw [hz2]; omega) (by unfold maxLen; omega) (Nat.le_trans HB.size hgrow1.size) ?_; intro w7 hown2 hgrow2)))
    have hmd : ∀ m : UInt8, (madeCells (Value.cells (.int .u8 0)) (64 * 1)).toList = padC key.data.toList m 0 := fun m => by
      rw [Nat.mul_one]; exact made_one _ 64
    have g1l : W.heap.size < w6.heap.size := (hown1.lt W.heap.size rfl).2
    have HO1 : Hid (w7.ownsRow w.heap.size 5 1 (.slice (some ⟨W.heap.size, 0, none⟩) 64 64) 64 (padC key.data.toList 54 0)) := by
      rw [← hmd 54]; exact hown1.kept hgrow2 (Or.inr (by simp [Value.ownBlock]))
    have HO2 : Hid (w7.ownsRow w.heap.size 5 1 (.slice (some ⟨w6.heap.size, 0, none⟩) 64 64) 64 (padC key.data.toList 92 0)) := by
      rw [← hmd 92]; exact hown2
    have HB2 : Hid (Below w.heap.size w w7) := (HB.grown hgrow1 HB.size (fun _ h => by cases h)).grown hgrow2 (Nat.le_trans HB.size hgrow1.size) (fun _ h => by cases h)
    obtain ⟨g1, hg1⟩ : ∃ g, W.heap.size = g := ⟨_, rfl⟩
    obtain ⟨g2, hg2⟩ : ∃ g, w6.heap.size = g := ⟨_, rfl⟩
    have hl1 : w.heap.size ≤ g1 := by rw [← hg1]; exact HB.size
    rw [hg1] at HO1 g1l ⊢
    rw [hg2] at HO2 g1l ⊢
    have hne : Hid (g1 ≠ g2) := by show _ ≠ _; omega
    have hl2 : w.heap.size ≤ g2 := by omega
    clear hown1 hown2 hgrow1 hgrow2 hmd HB hg1 hg2
    go_wp2
    go_loopw [16] (fun i wr => ∃ j : Nat, j ≤ 64 ∧ i = .int .i64 j ∧ Hid (wr.ownsRow w.heap.size 5 1 (.slice (some ⟨g1, 0, none⟩) 64 64) 64 (padC key.data.toList 54 j)) ∧ Hid (wr.ownsRow w.heap.size 5 1 (.slice (some ⟨g2, 0, none⟩) 64 64) 64 (padC key.data.toList 92 j)) ∧ Hid (Below w.heap.size w wr)) (fun i _ => 64 - (intOf i).toNat)
    case atStart => exact ⟨0, Nat.zero_le _, rfl, HO1, HO2, HB2⟩
    case round =>
      clear HO1 HO2 HB2
      obtain ⟨j, hj, rfl, HO1, HO2, HBr⟩ := hrel
      by_cases hj64 : j < 64
      · obtain ⟨⟨q1, c1⟩, f1⟩ := own_cell HO1.out hj64
        obtain ⟨⟨q2, c2⟩, f2⟩ := own_cell HO2.out hj64
        have LK : (j : Int) < 64 := by omega
        have STEP : ∀ x : UInt8, key.data.toList.getD j 0 = x → Hid (((wr.setCell ⟨g1, j, none⟩ (.int .u8 ((x ^^^ 54).toNat : Int))).setCell ⟨g2, j, none⟩ (.int .u8 ((x ^^^ 92).toNat : Int))).ownsRow w.heap.size 5 1 (.slice (some ⟨g1, 0, none⟩) 64 64) 64 (padC key.data.toList 54 (j + 1))) ∧ Hid (((wr.setCell ⟨g1, j, none⟩ (.int .u8 ((x ^^^ 54).toNat : Int))).setCell ⟨g2, j, none⟩ (.int .u8 ((x ^^^ 92).toNat : Int))).ownsRow w.heap.size 5 1 (.slice (some ⟨g2, 0, none⟩) 64 64) 64 (padC key.data.toList 92 (j + 1))) ∧ Hid (Below w.heap.size w ((wr.setCell ⟨g1, j, none⟩ (.int .u8 ((x ^^^ 54).toNat : Int))).setCell ⟨g2, j, none⟩ (.int .u8 ((x ^^^ 92).toNat : Int)))) ∧ (wr.setCell ⟨g1, j, none⟩ (.int .u8 ((x ^^^ 54).toNat : Int))).cell? ⟨g2, j, none⟩ = some q2 := by
          rintro x rfl
          have a1 := own_set HO1.out hj64 (.int .u8 ((key.data.toList.getD j 0 ^^^ 54).toNat : Int))
          rw [padC_set _ _ hj64] at a1
          have a2 := own_set (own_two HO2.out hne.out.symm j (.int .u8 ((key.data.toList.getD j 0 ^^^ 54).toNat : Int))) hj64 (.int .u8 ((key.data.toList.getD j 0 ^^^ 92).toNat : Int))
          rw [padC_set _ _ hj64] at a2
          refine ⟨own_two a1 hne.out j _, a2, (HBr.out.setCell (p := ⟨g1, j, none⟩) hl1 _).setCell (p := ⟨g2, j, none⟩) hl2 _, ?_⟩
          rw [World.cell?_setCell_other _ _ _ _ (by intro e; injection e with e; exact hne.out e)]
          exact c2
        by_cases hjk : j < key.size
        · obtain ⟨S1, S2, S3, c3⟩ := STEP key[j] (bytes_get key hjk)
          have x1 : bits .xor .u8 (key[j].toNat : Int) 54 = ((key[j] ^^^ 54).toNat : Int) := u8_xor key[j] 54
          have x2 : bits .xor .u8 (key[j].toNat : Int) 92 = ((key[j] ^^^ 92).toNat : Int) := u8_xor key[j] 92
          clear STEP
          generalize ((key[j] ^^^ 54).toNat : Int) = v1 at *
          generalize ((key[j] ^^^ 92).toNat : Int) = v2 at *
          go_wp2
          go_roundw
          case rel => exact ⟨j + 1, by omega, by go_num, S1, S2, S3⟩
          case measure => simp [intOf]; omega
        · obtain ⟨S1, S2, S3, c3⟩ := STEP 0 (by rw [List.getD_eq_getElem?_getD, List.getElem?_eq_none (by rw [size_list]; omega)]; rfl)
          have x1 : bits .xor .u8 0 54 = 54 := xor_zero_facts.1
          have x2 : bits .xor .u8 0 92 = 92 := xor_zero_facts.2
          rw [show (((0 : UInt8) ^^^ 54).toNat : Int) = 54 from rfl] at S1 S2 S3 c3
          rw [show (((0 : UInt8) ^^^ 92).toNat : Int) = 92 from rfl] at S1 S2 S3
          clear STEP
          go_wp2
          go_roundw
          case rel => exact ⟨j + 1, by omega, by go_num, S1, S2, S3⟩
          case measure => simp [intOf]; omega
      · have hj64e : j = 64 := by omega
        rw [hj64e, padC_all] at HO1 HO2
        clear hj64e hj
        have HFIN : Hid (hmacL key.data.toList msg.data.toList = sha (padX key.data.toList 92 64 ++ sha (padX key.data.toList 54 64 ++ msg.data.toList))) := by
          show _ = _
          rw [hmacL, ← HK.out]
        obtain ⟨O, hO⟩ : ∃ O : ByteArray, (⟨(padX key.data.toList 92 64).toArray⟩ : ByteArray) = O := ⟨_, rfl⟩
        obtain ⟨I, hI⟩ : ∃ I : ByteArray, (⟨(padX key.data.toList 54 64).toArray⟩ : ByteArray) = I := ⟨_, rfl⟩
        have CV : ∀ wx, Below wr.heap.size wr wx → (convert 22 9 (.slice (some ⟨g1, 0, none⟩) 64 64)).run Tryd.prog wx = .ok (.string I) wx ∧ (convert 22 9 (.slice (some ⟨g2, 0, none⟩) 64 64)).run Tryd.prog wx = .ok (.string O) wx := by
          intro wx hb
          rw [← hO, ← hI]
          exact ⟨conv_at (P := Tryd.prog) 22 9 5 64 64 Tryd.underlying22 Tryd.underlying5 Tryd.underlying9 ((own_at HO1.out).at.below hb (Nat.le_refl _)) (length_padX _ _ _), conv_at (P := Tryd.prog) 22 9 5 64 64 Tryd.underlying22 Tryd.underlying5 Tryd.underlying9 ((own_at HO2.out).at.below hb (Nat.le_refl _)) (length_padX _ _ _)⟩
        have HCV := Lib.hid CV
        have CU := CV wr.drew (Below.refl _ _).drew
        have HI : Hid (I.data.toList = padX key.data.toList 54 64) := by show _ = _; rw [← hI]
        have HO : Hid (O.data.toList = padX key.data.toList 92 64) := by show _ = _; rw [← hO]
        have hIs : I.size ≤ 64 := by rw [← size_list, HI.out, length_padX]; exact Nat.le_refl _
        have hOs : O.size ≤ 64 := by rw [← size_list, HO.out, length_padX]; exact Nat.le_refl _
        have him : (I ++ msg).size ≤ 1000 := by rw [ByteArray.size_append]; omega
        have HIM : Hid ((I ++ msg).data.toList = padX key.data.toList 54 64 ++ msg.data.toList) := by show _ = _; rw [ByteArray.data_append, Array.toList_append, HI.out]
        obtain ⟨mI, hmI⟩ : ∃ m, (I ++ msg).size = m := ⟨_, rfl⟩
        obtain ⟨cpI, obI, hcvI, HMI⟩ := bytes_conv (P := Tryd.prog) 9 22 5 (I ++ msg) mI hmI Tryd.underlying9 Tryd.underlying22 Tryd.underlying5
        have HmI : Hid ((I ++ msg).data.toList.length = mI) := by show _ = _; rw [size_list]; exact hmI
        have him2 : mI ≤ 1000 := by omega
        clear CV hO hI hmI
        go_wp2_with fail
        go_region_held (fun w' => (convert 22 9 (.slice (some ⟨g1, 0, none⟩) 64 64)).run Tryd.prog w' = .ok (.string I) w' ∧ (convert 22 9 (.slice (some ⟨g2, 0, none⟩) 64 64)).run Tryd.prog w' = .ok (.string O) w') (first | exact CU | exact HCV.out _ ((Below.refl _ _).drew.drew.alloc (Nat.le_refl _) _) | exact HCV.out _ ((Below.refl _ _).drew.alloc (Nat.le_refl _) _) | exact HCV.out _ ((Below.refl _ _).drew.alloc (Nat.le_refl _) _).drew | exact CW | exact CX | exact HCV.out _ ((HBR4.out.drew.alloc HBR4.out.size _)) | exact HCV.out _ ((HBR4.out.alloc HBR4.out.size _)).drew | fail)
          (first
          | (have _nd := HB4; go_at_call 10; refine (hash_small _ _ _ (O ++ S).data.toList _ (HMO.out w4 w4.heap.size (Nat.le_refl _)).at HmO.out (by omega) (HT.out.below (HB4.out.alloc HB4.out.size (obO w4)).drew)).mono ?_; rintro e w5 ⟨rfl, hb5⟩; rw [show (⟨(sha (O ++ S).data.toList).toArray⟩ : ByteArray) = M from by rw [HM.out, HFIN.out, ByteArray.data_append, Array.toList_append, HO.out, HS.out, HIM.out]]; have HB5 : Below w.heap.size w w5 := ((HB4.out.alloc HB4.out.size (obO w4)).drew.trans (hb5.mono (by show w.heap.size ≤ (w4.alloc (obO w4)).heap.size; have := HB4.out.size; simp; omega))); have CX := HCV.out w5 ((HBR4.out.alloc HBR4.out.size (obO w4)).drew.trans (hb5.mono (by show wr.heap.size ≤ (w4.alloc (obO w4)).heap.size; have := HBR4.out.size; simp; omega))))
          | (go_at_call 10; refine (hash_small _ _ _ (I ++ msg).data.toList _ (HMI.out wr.drew wr.heap.size (Nat.le_refl _)).at HmI.out (by omega) (HT.out.below (HBr.out.drew.alloc HBr.out.size (obI wr.drew)).drew)).mono ?_; rintro e w4 ⟨rfl, hb4⟩; have HBR4 : Hid (Below wr.heap.size wr w4) := ((Below.refl wr.heap.size wr).drew.alloc (Nat.le_refl _) (obI wr.drew)).drew.trans (hb4.mono (by show wr.heap.size ≤ (wr.alloc (obI wr.drew)).heap.size; simp)); have HB4 : Hid (Below w.heap.size w w4) := HBr.out.trans (HBR4.out.mono HBr.out.size); have CW := HCV.out w4 HBR4.out; obtain ⟨S, hS⟩ : ∃ S : ByteArray, (⟨(sha (I ++ msg).data.toList).toArray⟩ : ByteArray) = S := ⟨_, rfl⟩; rw [hS]; have HS : Hid (S.data.toList = sha (I ++ msg).data.toList) := (by show _ = _; rw [← hS]); have hSs : S.size ≤ 32 := (by rw [← size_list, HS.out, length_sha]; exact Nat.le_refl _); obtain ⟨mO, hmO⟩ : ∃ m, (O ++ S).size = m := ⟨_, rfl⟩; obtain ⟨cpO, obO, hcvO, HMO⟩ := bytes_conv (P := Tryd.prog) 9 22 5 (O ++ S) mO hmO Tryd.underlying9 Tryd.underlying22 Tryd.underlying5; have HmO : Hid ((O ++ S).data.toList.length = mO) := (by show _ = _; rw [size_list]; exact hmO); have hmO2 : mO ≤ 1000 := (by have h := ByteArray.size_append (a := O) (b := S); omega); clear hS hb4 hmO)
          | fail)
        clear CX CU CW hcvI hcvO
        go_wp2
        go_ret
        exact ⟨rfl, HB5⟩
end Go.Proofs.YtfkpdinfoagfhaaDoor
