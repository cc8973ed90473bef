/-
  Contracts of the given program's FrameBytes and of its reference, and of what they call. Conditions: bounds on what is handed in.
-/
import Derived.Test.YthbjkmcpnhfimaaNumbers
import Derived.Test.YthbjkmcpnhfimaaCrc
import Derived.Lib.AppendStr
namespace Go.Proofs.Ythbjkmcpnhfimaa
open Go.ChangeShapes Go.WideShapes Go.ChangeAt Go.RowKit
set_option linter.unusedVariables false

/-- a frame: how long it is, the sum, the data -/
def frameL (d : List UInt8) : List UInt8 := bigL d.length 3 ++ bigL (crc (bigL d.length 3 ++ d)) 4 ++ d
theorem length_frameL (d : List UInt8) : (frameL d).length = 3 + 4 + d.length := by simp [frameL, length_bigL] <;> omega
def frameR (d : List UInt8) : List UInt8 × Int := if 65536 < d.length then ([], 2) else if d.length = 0 then ([], 4) else (frameL d, 0)
theorem frameR_le (d : List UInt8) : (frameR d).1.length ≤ 1048576 := by
  unfold frameR
  split
  · simp
  · split
    · simp
    · simp only [length_frameL]; omega
theorem crc_lt (l : List UInt8) : crc l ≤ 4294967295 := by
  have h : crcL l < 2 ^ 32 := crcL_lt l
  have : crc l < 2 ^ 32 := Nat.xor_lt_two_pow h (by decide)
  omega
theorem app_list (h : List UInt8) (s : ByteArray) : ((⟨h.toArray⟩ : ByteArray) ++ s).data.toList = h ++ s.data.toList := by simp [ByteArray.data_append]
theorem size_list (s : ByteArray) : s.data.toList.length = s.size := by rw [Array.length_toList]; rfl

theorem size_bigL (n c : Nat) : (⟨(bigL n c).toArray⟩ : ByteArray).size = c := by
  show (bigL n c).toArray.size = c
  rw [List.size_toArray, length_bigL]

set_option maxHeartbeats 400000 in
theorem frameOf_any (s : ByteArray) (w : World) (hs : s.size ≤ 65536) :
    Calls Try.prog 43 #[.string s] w fun e w' => e = .returned (.string ⟨(frameL s.data.toList).toArray⟩) ∧ Below w.heap.size w w' := by
  have HE : Hid ((((⟨(bigL s.size 3).toArray⟩ : ByteArray) ++ ⟨(bigL (crc (bigL s.size 3 ++ s.data.toList)) 4).toArray⟩) ++ s) = ⟨(frameL s.data.toList).toArray⟩) := by
    show _ = _
    apply ByteArray.ext
    apply Array.toList_inj.1
    rw [ByteArray.data_append, ByteArray.data_append, Array.toList_append, Array.toList_append]
    simp only [frameL, size_list]
  have HC := Lib.hid (check32_any ((⟨(bigL s.size 3).toArray⟩ : ByteArray) ++ s))
  have HA := Lib.hid (app_list (bigL s.size 3) s)
  have HS : Hid (((⟨(bigL s.size 3).toArray⟩ : ByteArray) ++ s).size ≤ 1048576) := by
    show _ ≤ _
    rw [ByteArray.size_append]
    have : (⟨(bigL s.size 3).toArray⟩ : ByteArray).size = 3 := size_bigL _ _
    omega
  have h3 : (⟨(bigL s.size 3).toArray⟩ : ByteArray).size ≤ 3 := Nat.le_of_eq (size_bigL _ _)
  have h4 : (⟨(bigL (crc (bigL s.size 3 ++ s.data.toList)) 4).toArray⟩ : ByteArray).size ≤ 4 := Nat.le_of_eq (size_bigL _ _)
  have h7 : ((⟨(bigL s.size 3).toArray⟩ : ByteArray) ++ ⟨(bigL (crc (bigL s.size 3 ++ s.data.toList)) 4).toArray⟩).size ≤ 7 := by
    rw [ByteArray.size_append]; omega
  go_enter Try.func43, Try.ntmps43
  go_wp2_with fail
  refine (bigBytes_any s.size 3 _ (by omega) (by decide)).mono ?_
  rintro e w1 ⟨rfl, hb1⟩
  go_wp2_with fail
  refine (HC.out _ HS.out).mono ?_
  rw [HA.out]
  rintro e w2 ⟨rfl, rfl⟩
  go_wp2_with fail
  refine (bigBytes_any (crc (bigL s.size 3 ++ s.data.toList)) 4 _ (by have := crc_lt (bigL s.size 3 ++ s.data.toList); omega) (by decide)).mono ?_
  rintro e w3 ⟨rfl, hb3⟩
  go_wp2_with fail
  go_ret
  exact ⟨ret_str HE.out, hb1.trans (hb3.mono hb1.size)⟩

theorem own_slice {w : World} {B e n : Nat} {v : Value} {xs : List Value} (h : w.ownsRow B e 1 v n xs) (hn : 0 < n) : ∃ g cap, v = .slice (some ⟨g, 0, none⟩) n cap := by
  rcases h.2 with ⟨_, h0⟩ | ⟨g, cap, cur, hv, _⟩
  · omega
  · exact ⟨g, cap, hv⟩

set_option maxHeartbeats 400000 in
theorem l02Frame_any (s : ByteArray) (w : World) (hs : s.size ≤ 65536) :
    Calls Try.prog 42 #[.string s] w fun e w' => ∃ g cap, e = .returned (.slice (some ⟨g, 0, none⟩) (3 + 4 + s.size) cap) ∧ Mine w.heap.size w' (some ⟨g, 0, none⟩) (u8s (frameL s.data.toList)) ∧ Below w.heap.size w w' := by
  obtain ⟨i0, hi, hz0, hz1, hz2⟩ := info_parts Try.info_i8
  obtain ⟨C, hC⟩ : ∃ C, C = crc (bigL s.size 3 ++ s.data.toList) := ⟨_, rfl⟩
  have HE : Hid (bigL s.size 3 ++ bigL C 4 ++ s.data.toList = frameL s.data.toList) := by
    show _ = _
    simp only [frameL, size_list, hC]
  have HC : C ≤ 4294967295 := by rw [hC]; exact crc_lt _
  have HK := fun (ao : Option Addr) (len cap : Nat) (w : World) ha hl hs => (hC ▸ l01Check_any ao len cap (bigL s.size 3 ++ s.data.toList) w ha hl hs : Calls Try.prog 39 #[.slice ao len cap] w fun e w' => e = .returned (.int .i64 (C : Int)) ∧ w = w')
  clear hC
  have HL : Hid ((bigL s.size 3 ++ s.data.toList).length = 0 + 3 + s.size) := by
    show _ = _
    rw [List.length_append, length_bigL, size_list]
  have hsc : Lib.strCells s = u8s s.data.toList := by rw [← strCells_u8s s.data.toList]
  have HSC := Lib.hid hsc
  clear hsc
  go_enter Try.func42, Try.ntmps42
  go_wp2_with (first
    | (have _nd := hown6; at_builtin; (refine Lib.wpList_append_own_string _ rfl (.tmp 15) (.tmp 16) 22 9 rfl w.heap.size 5 i0 Try.underlying22 Try.underlying9 hi hz0 hz1 hz2 _ _ _ rfl hown6 s rfl (by unfold maxLen; omega) (by omega) hz6 ?_; intro v7 w7 hown7 hgrow7 hn7; obtain ⟨g7, cap7, rfl⟩ := own_slice hown7 (by omega); have hb7 : Below w.heap.size w w7 := hb6.grown hgrow7 (by omega) (fun j hj => (hown6.lt j hj).1); clear hgrow7 hn7))
    | (have _nd := hown5; at_builtin; (refine wpList_append_lies _ rfl (.tmp 7) (.tmp 14) 22 rfl w.heap.size 5 i0 (.int .u8 0) 1 1 Try.underlying22 hi hz0 hz1 hz2 rfl (by decide) _ _ _ rfl (hown1.kept (grownBy_of_below none (hb3.trans (hb5.mono hz3))) (Or.inr (by simp [Value.ownBlock]))) ⟨g5, 0, none⟩ 4 cap5 (u8s (bigL C 4)) rfl (by simp [u8s, length_bigL]) (hown5.cells rfl) (u8s_one _) (by decide) (by unfold maxLen; omega) (by omega) (by omega) _ rfl ?_; intro g6 cap6 w6 hown6 hgrow6 hlie6 hlt6; have hb6 : Below w.heap.size w w6 := (hb1.trans ((hb3.trans (hb5.mono hz3)).mono hz1')).grown hgrow6 (by omega) (fun j hj => (hown1.lt j hj).1); have hz6 := hb6.size; clear hgrow6 hlie6 hlt6))
    | (have _nd := hown3; go_at_call 60; (refine (l02Number_any C 4 _ (by omega) (by decide)).mono ?_; rintro e w5 ⟨g5, cap5, rfl, hown5, hb5⟩; have hz5 := hb5.size))
    | (have _nd := hown3; go_at_call 39; (have hat3 := (own_at hown3).at; rw [HSC.out, ← u8s_append] at hat3; have hle : 0 + 3 + s.size ≤ 1048576 := by clear hat3; omega); (have hh := HK _ _ cap3 _ hat3 HL.out hle); (refine hh.mono ?_; rintro e w4 ⟨rfl, rfl⟩))
    | (have _nd := hown2; at_builtin; (refine Lib.wpList_append_own_string _ rfl (.tmp 10) (.tmp 11) 22 9 rfl w1.heap.size 5 i0 Try.underlying22 Try.underlying9 hi hz0 hz1 hz2 _ _ _ rfl hown2 s rfl (by unfold maxLen; omega) (by omega) hz2' ?_; intro v3 w3 hown3 hgrow3 hn3; obtain ⟨g3, cap3, rfl⟩ := own_slice hown3 (by omega); have hb3 : Below w1.heap.size w1 w3 := hb2.grown hgrow3 (by omega) (fun j hj => (hown2.lt j hj).1); have hz3 := hb3.size; clear hgrow3 hn3 hown2 hb2))
    | (have _nd := hown1; at_builtin; (have hmade := World.ownsRow_made (base := w1.heap.size) (e := 5) (size := 1) w1 #[] 0 (Nat.le_refl _) (Nat.zero_le _) rfl; refine wpList_append_lies _ rfl (.tmp 8) (.tmp 9) 22 rfl w1.heap.size 5 i0 (.int .u8 0) 1 1 Try.underlying22 hi hz0 hz1 hz2 rfl (by decide) _ _ _ rfl hmade ⟨g1, 0, none⟩ 3 cap1 (u8s (bigL s.size 3)) rfl (by simp [u8s, length_bigL]) ((hown1.alloc _).cells rfl) (u8s_one _) (by decide) (by unfold maxLen; omega) (by omega) (by simp) _ rfl ?_; intro g2 cap2 w2 hown2 hgrow2 hlie2 hlt2; rw [List.nil_append] at hown2; have hb2 : Below w1.heap.size w1 w2 := ((Below.refl _ _).alloc (Nat.le_refl _) _).grown hgrow2 (by simp) (fun j hj => (hmade.lt j hj).1); have hz2' := hb2.size; clear hgrow2 hlie2 hlt2 hmade))
    | (go_at_call 60; refine (l02Number_any s.size 3 _ (by omega) (by decide)).mono ?_; rintro e w1 ⟨g1, cap1, rfl, hown1, hb1⟩; have hz1' := hb1.size))
  go_ret
  exact ⟨g7, cap7, rfl, by rw [← HE.out, u8s_append, u8s_append, ← HSC.out]; exact own_at hown7, hb7⟩

def emptyB (s : ByteArray) : Bool := s.toList.isEmpty
theorem emptyB_eq (s : ByteArray) : emptyB s = decide (s.size = 0) := by
  unfold emptyB
  rw [ByteArray.toList_eq, ← size_list]
  cases s.data.toList <;> simp

set_option maxHeartbeats 400000 in
theorem specFrameBytes_any (s : ByteArray) (w : World) (hs : s.size ≤ maxLen) :
    Calls Try.prog 14 #[.string s] w fun e w' => ∃ ao' cap', e = .returned (.tuple #[.slice ao' (frameR s.data.toList).1.length cap', .int .i64 (frameR s.data.toList).2]) ∧ Mine w.heap.size w' ao' (u8s (frameR s.data.toList).1) ∧ Below w.heap.size w w' := by
  by_cases h1 : 65536 < s.size
  · have H : Hid (frameR s.data.toList = ([], 2)) := by show frameR _ = _; rw [frameR, size_list, if_pos h1]
    go_enter Try.func14, Try.ntmps14
    go_wp2
    go_ret2
    exact ⟨_, _, by rw [H.out]; rfl, by rw [H.out]; exact .inl rfl, (Below.refl _ _).alloc (Nat.le_refl _) _⟩
  cases h2 : emptyB s
  · have H : Hid (frameR s.data.toList = (frameL s.data.toList, 0)) := by
      have h2' := h2; rw [emptyB_eq, decide_eq_false_iff_not] at h2'
      show frameR _ = _; rw [frameR, size_list, if_neg h1, if_neg h2']
    have h2' : s.toList.isEmpty = false := h2
    have HL : Hid (3 + 4 + s.size = (frameL s.data.toList).length) := by show _ = _; rw [length_frameL, size_list]
    have HF := Lib.hid (l02Frame_any s w (by omega))
    go_enter Try.func14, Try.ntmps14
    go_wp2_with (go_at_call 42; refine HF.out.mono ?_; rintro e w1 ⟨g, cap, rfl, hm1, hb1⟩)
    go_ret2
    exact ⟨_, _, by rw [H.out]; simp only [← HL.out]; rfl, by rw [H.out]; exact hm1, hb1⟩
  · have H : Hid (frameR s.data.toList = ([], 4)) := by
      have h2' := h2; rw [emptyB_eq, decide_eq_true_eq] at h2'
      show frameR _ = _; rw [frameR, size_list, if_neg h1, if_pos h2']
    have h2' : s.toList.isEmpty = true := h2
    go_enter Try.func14, Try.ntmps14
    go_wp2
    go_ret2
    exact ⟨_, _, by rw [H.out]; rfl, by rw [H.out]; exact .inl rfl, (Below.refl _ _).alloc (Nat.le_refl _) _⟩

set_option maxHeartbeats 400000 in
theorem implFrameBytes_any (s : ByteArray) (w : World) (hs : s.size ≤ maxLen) :
    Calls Try.prog 15 #[.string s] w fun e w' => ∃ ao' cap', e = .returned (.tuple #[.slice ao' (frameR s.data.toList).1.length cap', .int .i64 (frameR s.data.toList).2]) ∧ Mine w.heap.size w' ao' (u8s (frameR s.data.toList).1) ∧ Below w.heap.size w w' := by
  have hbw : Below w.heap.size w (w.alloc (.cells #[.int .i64 s.size] 3)) := (Below.refl _ _).alloc (Nat.le_refl _) _
  have HI := Lib.hid (isLong_any (some ⟨w.heap.size, 0, none⟩) 1 1 [(s.size : Int)] (w.alloc (.cells #[.int .i64 s.size] 3)) (at_new _ _ _ _) rfl (by decide))
  by_cases h1 : 65536 < s.size
  · have H : Hid (frameR s.data.toList = ([], 2)) := by show frameR _ = _; rw [frameR, size_list, if_pos h1]
    have hd : ([(s.size : Int)].any fun x => decide (65536 < x)) = true := by simp; omega
    go_enter Try.func15, Try.ntmps15
    go_wp2_with (go_at_call 40; refine HI.out.mono ?_; rw [hd]; rintro e w' ⟨rfl, rfl⟩)
    go_ret2
    exact ⟨_, _, by rw [H.out]; rfl, by rw [H.out]; exact .inl rfl, hbw⟩
  have hd : ([(s.size : Int)].any fun x => decide (65536 < x)) = false := by simp; omega
  cases h2 : emptyB s
  · have H : Hid (frameR s.data.toList = (frameL s.data.toList, 0)) := by
      have h2' := h2; rw [emptyB_eq, decide_eq_false_iff_not] at h2'
      show frameR _ = _; rw [frameR, size_list, if_neg h1, if_neg h2']
    have h2' : s.toList.isEmpty = false := h2
    have HF := Lib.hid (frameOf_any s (w.alloc (.cells #[.int .i64 s.size] 3)) (by omega))
    have hcv := fun w => run_bytes_of_string (P := Try.prog) w 9 22 5 ⟨(frameL s.data.toList).toArray⟩ Try.underlying9 Try.underlying22 Try.underlying5
    go_enter Try.func15, Try.ntmps15
    go_wp2_with (first | (go_at_call 40; refine HI.out.mono ?_; rw [hd]; rintro e w' ⟨rfl, rfl⟩) | (go_at_call 43; refine HF.out.mono ?_; rintro e w1 ⟨rfl, hb1⟩))
    go_ret2
    have hb2 : Below w.heap.size w w1 := hbw.trans (hb1.mono (by simp))
    exact ⟨_, _, by rw [H.out]; rfl, by rw [H.out]; exact mine_bytesRow w1 ⟨(frameL s.data.toList).toArray⟩ _ _ hb2.size, (hb2.alloc hb2.size _).drew⟩
  · have H : Hid (frameR s.data.toList = ([], 4)) := by
      have h2' := h2; rw [emptyB_eq, decide_eq_true_eq] at h2'
      show frameR _ = _; rw [frameR, size_list, if_neg h1, if_pos h2']
    have h2' : s.toList.isEmpty = true := h2
    go_enter Try.func15, Try.ntmps15
    go_wp2_with (go_at_call 40; refine HI.out.mono ?_; rw [hd]; rintro e w' ⟨rfl, rfl⟩)
    go_ret2
    exact ⟨_, _, by rw [H.out]; rfl, by rw [H.out]; exact .inl rfl, hbw⟩
end Go.Proofs.Ythbjkmcpnhfimaa
