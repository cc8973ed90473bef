/-
  Contract of the given program's hmac. Conditions: the tables stand; the key and the message are no longer than 900 million bytes.
-/
import Derived.Test.YtfkpdinfoagfhaaDoorSha7
import Derived.Deep.RegionHeld
namespace Go.Proofs.YtfkpdinfoagfhaaDoor
open Go.ChangeShapes Go.WideShapes Go.ChangeAt Go.RowKit
set_option linter.unusedVariables false
set_option linter.unusedSimpArgs false
set_option maxRecDepth 100000

def z64 : Array Value := madeCells #[Value.int .u8 0] 64
theorem hmac_make (wx : World) : (Instr.makeSlice 22 (.int .i64 64) (.int .i64 64)).run Tryd.prog wx = .ok (.slice (some ⟨wx.heap.size, 0, none⟩) 64 64) (wx.alloc (.cells z64 5)) := by
  obtain ⟨i0, hi, hz0, hz1, hz2⟩ := info_parts Tryd.info_i8
  have h := run_make (P := Tryd.prog) (w := wx) 22 5 i0 (.int .u8 0) Tryd.underlying22 hi hz0 .i64 .i64 64 64 (by decide) (by decide) (by rw [hz2]; decide) (by decide)
  rw [h, hz1]; rfl
theorem z64_size : z64.size = 64 := by unfold z64; simp [madeCells]
theorem z64_list (k : List UInt8) (m : UInt8) : z64.toList = padC k m 0 := made_one _ 64
theorem z64_own (wx : World) (base : Nat) (hb : base ≤ wx.heap.size) (k : List UInt8) (m : UInt8) : (wx.alloc (.cells z64 5)).ownsRow base 5 1 (.slice (some ⟨wx.heap.size, 0, none⟩) 64 64) 64 (padC k m 0) := by
  refine ⟨by rw [← z64_list k m, Array.length_toList, z64_size], .inr ⟨wx.heap.size, 64, z64, rfl, hb, heap_alloc_new wx _, Nat.le_refl _, by decide, by rw [z64_size], ?_⟩⟩
  rw [← z64_list k m]; exact List.take_of_length_le (by rw [Array.length_toList, z64_size]; exact Nat.le_refl _)
theorem z64_both (W : World) (base : Nat) (hb : base ≤ W.heap.size) (k : List UInt8) (m : UInt8) : ((W.alloc (.cells z64 5)).alloc (.cells z64 5)).ownsRow base 5 1 (.slice (some ⟨W.heap.size, 0, none⟩) 64 64) 64 (padC k m 0) ∧ ((W.alloc (.cells z64 5)).alloc (.cells z64 5)).ownsRow base 5 1 (.slice (some ⟨W.heap.size + 1, 0, none⟩) 64 64) 64 (padC k m 0) := by
  refine ⟨(z64_own W base hb k m).alloc _, ?_⟩
  have := z64_own (W.alloc (.cells z64 5)) base (by simp; omega) k m
  simpa using this

set_option maxHeartbeats 8000000 in
theorem hmac_aux (key msg : ByteArray) (w0 w : World) (hk : key.size ≤ 900000000) (hm : msg.size ≤ 900000000) (hb0 : Below w0.heap.size w0 w) (hT : Tabs w0) :
    Calls Tryd.prog 31 #[.string key, .string msg] w fun e w' => e = .returned (.string ⟨(hmacL key.data.toList msg.data.toList).toArray⟩) ∧ Below w0.heap.size w0 w' := by
  have hmk := hmac_make
  have HT := Lib.hid hT
  clear hT
  by_cases hbig : 64 < key.size
  · go_enter Tryd.func31, Tryd.ntmps31
    go_wp2_with fail
    refine ((HT.out.below hb0).hash key (by omega)).mono ?_
    rintro e W ⟨rfl, hbw⟩
    obtain ⟨K, hK⟩ : ∃ K : ByteArray, (⟨(sha key.data.toList).toArray⟩ : ByteArray) = K := ⟨_, rfl⟩
    have hks : K.size ≤ 64 := by rw [← hK, Lib.size_eq]; show (sha _).length ≤ 64; rw [length_sha]; omega
    have HK : Hid (K.data.toList = hmacKey key.data.toList) := by
      show _ = _
      rw [← hK, hmacKey, if_pos (by rw [size_list]; exact hbig)]
    have HB : Below w0.heap.size w0 W := hb0.trans (hbw.mono hb0.size)
    rw [hK]
    clear hK hbw hb0 hbig hk
    go_wp2_with fail
    obtain ⟨hz1, hz2⟩ := z64_both W w0.heap.size HB.size K.data.toList 54
    obtain ⟨hz3, hz4⟩ := z64_both W w0.heap.size HB.size K.data.toList 92
    have HZ1 := Lib.hid hz1
    have HZ2 := Lib.hid hz2
    have HZ3 := Lib.hid hz3
    have HZ4 := Lib.hid hz4
    clear hz1 hz2 hz3 hz4
    go_region
    all_goals
      have HBW : Hid (Below w0.heap.size w0 ((W.alloc (.cells z64 5)).alloc (.cells z64 5)).drew) := ((HB.alloc HB.size _).alloc (by have := HB.size; simp; omega) _).drew
      have hb1 : w0.heap.size ≤ W.heap.size := HB.size
      clear HB
      go_wp2
    have HO1 : Hid (((W.alloc (.cells z64 5)).alloc (.cells z64 5)).drew.ownsRow w0.heap.size 5 1 (.slice (some ⟨W.heap.size, 0, none⟩) 64 64) 64 (padC K.data.toList 54 0)) := HZ1.out
    have HO2 : Hid (((W.alloc (.cells z64 5)).alloc (.cells z64 5)).drew.ownsRow w0.heap.size 5 1 (.slice (some ⟨W.heap.size + 1, 0, none⟩) 64 64) 64 (padC K.data.toList 92 0)) := HZ4.out
    obtain ⟨g2, hg2⟩ : ∃ g, W.heap.size + 1 = g := ⟨_, rfl⟩
    rw [hg2] at HO2 ⊢
    obtain ⟨g1, hg1⟩ : ∃ g, W.heap.size = g := ⟨_, rfl⟩
    rw [hg1] at HO1 hb1 hg2 ⊢
    rotate_left
    have HO1 : Hid (((W.alloc (.cells z64 5)).alloc (.cells z64 5)).drew.ownsRow w0.heap.size 5 1 (.slice (some ⟨W.heap.size + 1, 0, none⟩) 64 64) 64 (padC K.data.toList 54 0)) := HZ2.out
    have HO2 : Hid (((W.alloc (.cells z64 5)).alloc (.cells z64 5)).drew.ownsRow w0.heap.size 5 1 (.slice (some ⟨W.heap.size, 0, none⟩) 64 64) 64 (padC K.data.toList 92 0)) := HZ3.out
    obtain ⟨g1, hg1⟩ : ∃ g, W.heap.size + 1 = g := ⟨_, rfl⟩
    rw [hg1] at HO1 ⊢
    obtain ⟨g2, hg2⟩ : ∃ g, W.heap.size = g := ⟨_, rfl⟩
    rw [hg2] at HO2 hb1 hg1 ⊢
    rotate_left
    all_goals
      have hne : Hid (g1 ≠ g2) := by show _ ≠ _; omega
      have hl1 : w0.heap.size ≤ g1 := by omega
      have hl2 : w0.heap.size ≤ g2 := by omega
      generalize ((W.alloc (.cells z64 5)).alloc (.cells z64 5)).drew = V at *
      clear HZ1 HZ2 HZ3 HZ4 hg1 hg2 hb1 hmk
      go_loopw [16] (fun i wr => ∃ j : Nat, j ≤ 64 ∧ i = .int .i64 j ∧ Hid (wr.ownsRow w0.heap.size 5 1 (.slice (some ⟨g1, 0, none⟩) 64 64) 64 (padC K.data.toList 54 j)) ∧ Hid (wr.ownsRow w0.heap.size 5 1 (.slice (some ⟨g2, 0, none⟩) 64 64) 64 (padC K.data.toList 92 j)) ∧ Hid (Below w0.heap.size w0 wr) ) (fun i _ => 64 - (intOf i).toNat)
      case atStart => exact ⟨0, Nat.zero_le _, rfl, HO1, HO2, HBW⟩
      case round =>
        clear HO1 HO2 HBW
        obtain ⟨j, hj, rfl, HO1, HO2, HBr⟩ := hrel
        by_cases hj64 : j < 64
        · obtain ⟨⟨q1, c1⟩, f1⟩ := own_cell HO1.out hj64
          obtain ⟨⟨q2, c2⟩, f2⟩ := own_cell HO2.out hj64
          have LK : (j : Int) < 64 := by omega
          have STEP : ∀ x : UInt8, K.data.toList.getD j 0 = x → Hid (((wr.setCell ⟨g1, j, none⟩ (.int .u8 ((x ^^^ 54).toNat : Int))).setCell ⟨g2, j, none⟩ (.int .u8 ((x ^^^ 92).toNat : Int))).ownsRow w0.heap.size 5 1 (.slice (some ⟨g1, 0, none⟩) 64 64) 64 (padC K.data.toList 54 (j + 1))) ∧ Hid (((wr.setCell ⟨g1, j, none⟩ (.int .u8 ((x ^^^ 54).toNat : Int))).setCell ⟨g2, j, none⟩ (.int .u8 ((x ^^^ 92).toNat : Int))).ownsRow w0.heap.size 5 1 (.slice (some ⟨g2, 0, none⟩) 64 64) 64 (padC K.data.toList 92 (j + 1))) ∧ Hid (Below w0.heap.size w0 ((wr.setCell ⟨g1, j, none⟩ (.int .u8 ((x ^^^ 54).toNat : Int))).setCell ⟨g2, j, none⟩ (.int .u8 ((x ^^^ 92).toNat : Int)))) ∧ (wr.setCell ⟨g1, j, none⟩ (.int .u8 ((x ^^^ 54).toNat : Int))).cell? ⟨g2, j, none⟩ = some q2 := by
            rintro x rfl
            have a1 := own_set HO1.out hj64 (.int .u8 ((K.data.toList.getD j 0 ^^^ 54).toNat : Int))
            rw [padC_set _ _ hj64] at a1
            have a2 := own_set (own_two HO2.out hne.out.symm j (.int .u8 ((K.data.toList.getD j 0 ^^^ 54).toNat : Int))) hj64 (.int .u8 ((K.data.toList.getD j 0 ^^^ 92).toNat : Int))
            rw [padC_set _ _ hj64] at a2
            refine ⟨own_two a1 hne.out j _, a2, (HBr.out.setCell (p := ⟨g1, j, none⟩) hl1 _).setCell (p := ⟨g2, j, none⟩) hl2 _, ?_⟩
            rw [World.cell?_setCell_other _ _ _ _ (by intro e; injection e with e; exact hne.out e)]
            exact c2
          by_cases hjk : j < K.size
          · obtain ⟨S1, S2, S3, c3⟩ := STEP K[j] (bytes_get K hjk)
            have x1 : bits .xor .u8 (K[j].toNat : Int) 54 = ((K[j] ^^^ 54).toNat : Int) := u8_xor K[j] 54
            have x2 : bits .xor .u8 (K[j].toNat : Int) 92 = ((K[j] ^^^ 92).toNat : Int) := u8_xor K[j] 92
            clear STEP
            generalize ((K[j] ^^^ 54).toNat : Int) = v1 at *
            generalize ((K[j] ^^^ 92).toNat : Int) = v2 at *
            go_wp2
            go_roundw
            case rel => exact ⟨j + 1, by omega, by go_num, S1, S2, S3⟩
            case measure => simp [intOf]; omega
          · obtain ⟨S1, S2, S3, c3⟩ := STEP 0 (by rw [List.getD_eq_getElem?_getD, List.getElem?_eq_none (by rw [size_list]; omega)]; rfl)
            have x1 : bits .xor .u8 0 54 = 54 := xor_zero_facts.1
            have x2 : bits .xor .u8 0 92 = 92 := xor_zero_facts.2
            rw [show (((0 : UInt8) ^^^ 54).toNat : Int) = 54 from rfl] at S1 S2 S3 c3
            rw [show (((0 : UInt8) ^^^ 92).toNat : Int) = 92 from rfl] at S1 S2 S3
            clear STEP
            go_wp2
            go_roundw
            case rel => exact ⟨j + 1, by omega, by go_num, S1, S2, S3⟩
            case measure => simp [intOf]; omega
        · have hj64e : j = 64 := by omega
          rw [hj64e, padC_all] at HO1 HO2
          clear hj64e hj
          have HFIN : Hid (hmacL key.data.toList msg.data.toList = sha (padX K.data.toList 92 64 ++ sha (padX K.data.toList 54 64 ++ msg.data.toList))) := by
            show _ = _
            rw [hmacL, ← HK.out]
          obtain ⟨O, hO⟩ : ∃ O : ByteArray, (⟨(padX K.data.toList 92 64).toArray⟩ : ByteArray) = O := ⟨_, rfl⟩
          obtain ⟨I, hI⟩ : ∃ I : ByteArray, (⟨(padX K.data.toList 54 64).toArray⟩ : ByteArray) = I := ⟨_, rfl⟩
          have CV : ∀ wx, Below wr.heap.size wr wx → (convert 22 9 (.slice (some ⟨g1, 0, none⟩) 64 64)).run Tryd.prog wx = .ok (.string I) wx ∧ (convert 22 9 (.slice (some ⟨g2, 0, none⟩) 64 64)).run Tryd.prog wx = .ok (.string O) wx := by
            intro wx hb
            rw [← hO, ← hI]
            exact ⟨conv_at (P := Tryd.prog) 22 9 5 64 64 Tryd.underlying22 Tryd.underlying5 Tryd.underlying9 ((own_at HO1.out).at.below hb (Nat.le_refl _)) (length_padX _ _ _), conv_at (P := Tryd.prog) 22 9 5 64 64 Tryd.underlying22 Tryd.underlying5 Tryd.underlying9 ((own_at HO2.out).at.below hb (Nat.le_refl _)) (length_padX _ _ _)⟩
          have HCV := Lib.hid CV
          have CU := CV wr.drew (Below.refl _ _).drew
          have HI : Hid (I.data.toList = padX K.data.toList 54 64) := by show _ = _; rw [← hI]
          have HO : Hid (O.data.toList = padX K.data.toList 92 64) := by show _ = _; rw [← hO]
          have hIs : I.size ≤ 64 := by rw [← size_list, HI.out, length_padX]; exact Nat.le_refl _
          have hOs : O.size ≤ 64 := by rw [← size_list, HO.out, length_padX]; exact Nat.le_refl _
          have him : (I ++ msg).size ≤ 1000000000 := by rw [ByteArray.size_append]; omega
          have HIM : Hid ((I ++ msg).data.toList = padX K.data.toList 54 64 ++ msg.data.toList) := by show _ = _; rw [ByteArray.data_append, Array.toList_append, HI.out]
          clear CV hO hI
          go_wp2_with fail
          go_region_held (fun w' => (convert 22 9 (.slice (some ⟨g1, 0, none⟩) 64 64)).run Tryd.prog w' = .ok (.string I) w' ∧ (convert 22 9 (.slice (some ⟨g2, 0, none⟩) 64 64)).run Tryd.prog w' = .ok (.string O) w') (first | exact CU | exact CW | exact CX | fail)
            (first
            | (have _nd := HB4; go_at_call 23; refine ((HT.out.below HB4.out).hash (O ++ S) (by rw [ByteArray.size_append]; omega)).mono ?_; rintro e w5 ⟨rfl, hb5⟩; have CX := HCV.out w5 (HBR4.out.trans (hb5.mono HBR4.out.size)))
            | (go_at_call 23; refine ((HT.out.below HBr.out.drew).hash (I ++ msg) him).mono ?_; rintro e w4 ⟨rfl, hb4⟩; have HBR4 : Hid (Below wr.heap.size wr w4) := (Below.refl wr.heap.size wr).drew.trans hb4; have HB4 : Hid (Below w0.heap.size w0 w4) := HBr.out.trans (HBR4.out.mono HBr.out.size); have CW := HCV.out w4 HBR4.out; obtain ⟨S, hS⟩ : ∃ S : ByteArray, (⟨(sha (I ++ msg).data.toList).toArray⟩ : ByteArray) = S := ⟨_, rfl⟩; rw [hS]; have HS : Hid (S.data.toList = sha (I ++ msg).data.toList) := (by show _ = _; rw [← hS]); have hSs : S.size ≤ 32 := (by rw [← size_list, HS.out, length_sha]; exact Nat.le_refl _); clear hS hb4)
            | fail)
          have HE : Hid ((⟨(sha (O ++ S).data.toList).toArray⟩ : ByteArray) = ⟨(hmacL key.data.toList msg.data.toList).toArray⟩) := by
            show _ = _
            rw [HFIN.out, ByteArray.data_append, Array.toList_append, HO.out, HS.out, HIM.out]
          have HB5 : Below w0.heap.size w0 w5 := HB4.out.trans (hb5.mono HB4.out.size)
          clear CX CU hb5
          go_wp2
          go_ret
          exact ⟨by rw [← HE.out]; rfl, HB5⟩
  · have HK : Hid (key.data.toList = hmacKey key.data.toList) := by
      show _ = _
      rw [hmacKey, if_neg (by rw [size_list]; exact hbig)]
    have hks : key.size ≤ 64 := by omega
    clear hbig hk
    obtain ⟨W, rfl⟩ : ∃ W : World, W = w := ⟨_, rfl⟩
    have HB := hb0
    clear hb0
    have hkn : ¬ (64 < (key.size : Int)) := by omega
    go_enter Tryd.func31, Tryd.ntmps31
    go_wp2_with fail
    obtain ⟨hz1, hz2⟩ := z64_both W w0.heap.size HB.size key.data.toList 54
    obtain ⟨hz3, hz4⟩ := z64_both W w0.heap.size HB.size key.data.toList 92
    have HZ1 := Lib.hid hz1
    have HZ2 := Lib.hid hz2
    have HZ3 := Lib.hid hz3
    have HZ4 := Lib.hid hz4
    clear hz1 hz2 hz3 hz4
    go_region
    all_goals
      have HBW : Hid (Below w0.heap.size w0 ((W.alloc (.cells z64 5)).alloc (.cells z64 5)).drew) := ((HB.alloc HB.size _).alloc (by have := HB.size; simp; omega) _).drew
      have hb1 : w0.heap.size ≤ W.heap.size := HB.size
      clear HB
      go_wp2
    have HO1 : Hid (((W.alloc (.cells z64 5)).alloc (.cells z64 5)).drew.ownsRow w0.heap.size 5 1 (.slice (some ⟨W.heap.size, 0, none⟩) 64 64) 64 (padC key.data.toList 54 0)) := HZ1.out
    have HO2 : Hid (((W.alloc (.cells z64 5)).alloc (.cells z64 5)).drew.ownsRow w0.heap.size 5 1 (.slice (some ⟨W.heap.size + 1, 0, none⟩) 64 64) 64 (padC key.data.toList 92 0)) := HZ4.out
    obtain ⟨g2, hg2⟩ : ∃ g, W.heap.size + 1 = g := ⟨_, rfl⟩
    rw [hg2] at HO2 ⊢
    obtain ⟨g1, hg1⟩ : ∃ g, W.heap.size = g := ⟨_, rfl⟩
    rw [hg1] at HO1 hb1 hg2 ⊢
    rotate_left
    have HO1 : Hid (((W.alloc (.cells z64 5)).alloc (.cells z64 5)).drew.ownsRow w0.heap.size 5 1 (.slice (some ⟨W.heap.size + 1, 0, none⟩) 64 64) 64 (padC key.data.toList 54 0)) := HZ2.out
    have HO2 : Hid (((W.alloc (.cells z64 5)).alloc (.cells z64 5)).drew.ownsRow w0.heap.size 5 1 (.slice (some ⟨W.heap.size, 0, none⟩) 64 64) 64 (padC key.data.toList 92 0)) := HZ3.out
    obtain ⟨g1, hg1⟩ : ∃ g, W.heap.size + 1 = g := ⟨_, rfl⟩
    rw [hg1] at HO1 ⊢
    obtain ⟨g2, hg2⟩ : ∃ g, W.heap.size = g := ⟨_, rfl⟩
    rw [hg2] at HO2 hb1 hg1 ⊢
    rotate_left
    all_goals
      have hne : Hid (g1 ≠ g2) := by show _ ≠ _; omega
      have hl1 : w0.heap.size ≤ g1 := by omega
      have hl2 : w0.heap.size ≤ g2 := by omega
      generalize ((W.alloc (.cells z64 5)).alloc (.cells z64 5)).drew = V at *
      clear HZ1 HZ2 HZ3 HZ4 hg1 hg2 hb1 hmk
      go_loopw [16] (fun i wr => ∃ j : Nat, j ≤ 64 ∧ i = .int .i64 j ∧ Hid (wr.ownsRow w0.heap.size 5 1 (.slice (some ⟨g1, 0, none⟩) 64 64) 64 (padC key.data.toList 54 j)) ∧ Hid (wr.ownsRow w0.heap.size 5 1 (.slice (some ⟨g2, 0, none⟩) 64 64) 64 (padC key.data.toList 92 j)) ∧ Hid (Below w0.heap.size w0 wr) ) (fun i _ => 64 - (intOf i).toNat)
      case atStart => exact ⟨0, Nat.zero_le _, rfl, HO1, HO2, HBW⟩
      case round =>
        clear HO1 HO2 HBW
        obtain ⟨j, hj, rfl, HO1, HO2, HBr⟩ := hrel
        by_cases hj64 : j < 64
        · obtain ⟨⟨q1, c1⟩, f1⟩ := own_cell HO1.out hj64
          obtain ⟨⟨q2, c2⟩, f2⟩ := own_cell HO2.out hj64
          have LK : (j : Int) < 64 := by omega
          have STEP : ∀ x : UInt8, key.data.toList.getD j 0 = x → Hid (((wr.setCell ⟨g1, j, none⟩ (.int .u8 ((x ^^^ 54).toNat : Int))).setCell ⟨g2, j, none⟩ (.int .u8 ((x ^^^ 92).toNat : Int))).ownsRow w0.heap.size 5 1 (.slice (some ⟨g1, 0, none⟩) 64 64) 64 (padC key.data.toList 54 (j + 1))) ∧ Hid (((wr.setCell ⟨g1, j, none⟩ (.int .u8 ((x ^^^ 54).toNat : Int))).setCell ⟨g2, j, none⟩ (.int .u8 ((x ^^^ 92).toNat : Int))).ownsRow w0.heap.size 5 1 (.slice (some ⟨g2, 0, none⟩) 64 64) 64 (padC key.data.toList 92 (j + 1))) ∧ Hid (Below w0.heap.size w0 ((wr.setCell ⟨g1, j, none⟩ (.int .u8 ((x ^^^ 54).toNat : Int))).setCell ⟨g2, j, none⟩ (.int .u8 ((x ^^^ 92).toNat : Int)))) ∧ (wr.setCell ⟨g1, j, none⟩ (.int .u8 ((x ^^^ 54).toNat : Int))).cell? ⟨g2, j, none⟩ = some q2 := by
            rintro x rfl
            have a1 := own_set HO1.out hj64 (.int .u8 ((key.data.toList.getD j 0 ^^^ 54).toNat : Int))
            rw [padC_set _ _ hj64] at a1
            have a2 := own_set (own_two HO2.out hne.out.symm j (.int .u8 ((key.data.toList.getD j 0 ^^^ 54).toNat : Int))) hj64 (.int .u8 ((key.data.toList.getD j 0 ^^^ 92).toNat : Int))
            rw [padC_set _ _ hj64] at a2
            refine ⟨own_two a1 hne.out j _, a2, (HBr.out.setCell (p := ⟨g1, j, none⟩) hl1 _).setCell (p := ⟨g2, j, none⟩) hl2 _, ?_⟩
            rw [World.cell?_setCell_other _ _ _ _ (by intro e; injection e with e; exact hne.out e)]
            exact c2
          by_cases hjk : j < key.size
          · obtain ⟨S1, S2, S3, c3⟩ := STEP key[j] (bytes_get key hjk)
            have x1 : bits .xor .u8 (key[j].toNat : Int) 54 = ((key[j] ^^^ 54).toNat : Int) := u8_xor key[j] 54
            have x2 : bits .xor .u8 (key[j].toNat : Int) 92 = ((key[j] ^^^ 92).toNat : Int) := u8_xor key[j] 92
            clear STEP
            generalize ((key[j] ^^^ 54).toNat : Int) = v1 at *
            generalize ((key[j] ^^^ 92).toNat : Int) = v2 at *
            go_wp2
            go_roundw
            case rel => exact ⟨j + 1, by omega, by go_num, S1, S2, S3⟩
            case measure => simp [intOf]; omega
          · obtain ⟨S1, S2, S3, c3⟩ := STEP 0 (by rw [List.getD_eq_getElem?_getD, List.getElem?_eq_none (by rw [size_list]; omega)]; rfl)
            have x1 : bits .xor .u8 0 54 = 54 := xor_zero_facts.1
            have x2 : bits .xor .u8 0 92 = 92 := xor_zero_facts.2
            rw [show (((0 : UInt8) ^^^ 54).toNat : Int) = 54 from rfl] at S1 S2 S3 c3
            rw [show (((0 : UInt8) ^^^ 92).toNat : Int) = 92 from rfl] at S1 S2 S3
            clear STEP
            go_wp2
            go_roundw
            case rel => exact ⟨j + 1, by omega, by go_num, S1, S2, S3⟩
            case measure => simp [intOf]; omega
        · have hj64e : j = 64 := by omega
          rw [hj64e, padC_all] at HO1 HO2
          clear hj64e hj
          have HFIN : Hid (hmacL key.data.toList msg.data.toList = sha (padX key.data.toList 92 64 ++ sha (padX key.data.toList 54 64 ++ msg.data.toList))) := by
            show _ = _
            rw [hmacL, ← HK.out]
          obtain ⟨O, hO⟩ : ∃ O : ByteArray, (⟨(padX key.data.toList 92 64).toArray⟩ : ByteArray) = O := ⟨_, rfl⟩
          obtain ⟨I, hI⟩ : ∃ I : ByteArray, (⟨(padX key.data.toList 54 64).toArray⟩ : ByteArray) = I := ⟨_, rfl⟩
          have CV : ∀ wx, Below wr.heap.size wr wx → (convert 22 9 (.slice (some ⟨g1, 0, none⟩) 64 64)).run Tryd.prog wx = .ok (.string I) wx ∧ (convert 22 9 (.slice (some ⟨g2, 0, none⟩) 64 64)).run Tryd.prog wx = .ok (.string O) wx := by
            intro wx hb
            rw [← hO, ← hI]
            exact ⟨conv_at (P := Tryd.prog) 22 9 5 64 64 Tryd.underlying22 Tryd.underlying5 Tryd.underlying9 ((own_at HO1.out).at.below hb (Nat.le_refl _)) (length_padX _ _ _), conv_at (P := Tryd.prog) 22 9 5 64 64 Tryd.underlying22 Tryd.underlying5 Tryd.underlying9 ((own_at HO2.out).at.below hb (Nat.le_refl _)) (length_padX _ _ _)⟩
          have HCV := Lib.hid CV
          have CU := CV wr.drew (Below.refl _ _).drew
          have HI : Hid (I.data.toList = padX key.data.toList 54 64) := by show _ = _; rw [← hI]
          have HO : Hid (O.data.toList = padX key.data.toList 92 64) := by show _ = _; rw [← hO]
          have hIs : I.size ≤ 64 := by rw [← size_list, HI.out, length_padX]; exact Nat.le_refl _
          have hOs : O.size ≤ 64 := by rw [← size_list, HO.out, length_padX]; exact Nat.le_refl _
          have him : (I ++ msg).size ≤ 1000000000 := by rw [ByteArray.size_append]; omega
          have HIM : Hid ((I ++ msg).data.toList = padX key.data.toList 54 64 ++ msg.data.toList) := by show _ = _; rw [ByteArray.data_append, Array.toList_append, HI.out]
          clear CV hO hI
          go_wp2_with fail
          go_region_held (fun w' => (convert 22 9 (.slice (some ⟨g1, 0, none⟩) 64 64)).run Tryd.prog w' = .ok (.string I) w' ∧ (convert 22 9 (.slice (some ⟨g2, 0, none⟩) 64 64)).run Tryd.prog w' = .ok (.string O) w') (first | exact CU | exact CW | exact CX | fail)
            (first
            | (have _nd := HB4; go_at_call 23; refine ((HT.out.below HB4.out).hash (O ++ S) (by rw [ByteArray.size_append]; omega)).mono ?_; rintro e w5 ⟨rfl, hb5⟩; have CX := HCV.out w5 (HBR4.out.trans (hb5.mono HBR4.out.size)))
            | (go_at_call 23; refine ((HT.out.below HBr.out.drew).hash (I ++ msg) him).mono ?_; rintro e w4 ⟨rfl, hb4⟩; have HBR4 : Hid (Below wr.heap.size wr w4) := (Below.refl wr.heap.size wr).drew.trans hb4; have HB4 : Hid (Below w0.heap.size w0 w4) := HBr.out.trans (HBR4.out.mono HBr.out.size); have CW := HCV.out w4 HBR4.out; obtain ⟨S, hS⟩ : ∃ S : ByteArray, (⟨(sha (I ++ msg).data.toList).toArray⟩ : ByteArray) = S := ⟨_, rfl⟩; rw [hS]; have HS : Hid (S.data.toList = sha (I ++ msg).data.toList) := (by show _ = _; rw [← hS]); have hSs : S.size ≤ 32 := (by rw [← size_list, HS.out, length_sha]; exact Nat.le_refl _); clear hS hb4)
            | fail)
          have HE : Hid ((⟨(sha (O ++ S).data.toList).toArray⟩ : ByteArray) = ⟨(hmacL key.data.toList msg.data.toList).toArray⟩) := by
            show _ = _
            rw [HFIN.out, ByteArray.data_append, Array.toList_append, HO.out, HS.out, HIM.out]
          have HB5 : Below w0.heap.size w0 w5 := HB4.out.trans (hb5.mono HB4.out.size)
          clear CX CU hb5
          go_wp2
          go_ret
          exact ⟨by rw [← HE.out]; rfl, HB5⟩
theorem hmac_any (key msg : ByteArray) (w : World) (hk : key.size ≤ 900000000) (hm : msg.size ≤ 900000000) (hT : Tabs w) :
    Calls Tryd.prog 31 #[.string key, .string msg] w fun e w' => e = .returned (.string ⟨(hmacL key.data.toList msg.data.toList).toArray⟩) ∧ Below w.heap.size w w' := hmac_aux key msg w w hk hm (Below.refl _ _) hT
end Go.Proofs.YtfkpdinfoagfhaaDoor
