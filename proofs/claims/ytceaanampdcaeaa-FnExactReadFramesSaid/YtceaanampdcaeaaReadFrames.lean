/-
  Contracts of the given program's ReadFrames and of its reference. Conditions: bounds on what is handed in.
-/
import Derived.Test.YtceaanampdcaeaaReadFields
namespace Go.Proofs.Ytceaanampdcaeaa
open Go.ChangeShapes Go.WideShapes Go.ChangeAt Go.RowKit
set_option linter.unusedVariables false

/-- the length that a frame at a place names -/
def frN (t : ByteArray) (p : Nat) : Nat := numL (t.extract p (p + 3)).data.toList
def frSum (t : ByteArray) (p : Nat) : Nat := numL (t.extract (p + 3) (p + 7)).data.toList
def frCrc (t : ByteArray) (p n : Nat) : Nat := crc (t.extract p (p + 3) ++ t.extract (p + 7) (p + 7 + n)).data.toList
/-- frames from a place on: their data, the place behind them, a code for what follows -/
def frF (t : ByteArray) : Nat → Nat → List ByteArray → List ByteArray × Nat × Int
  | 0, p, xs => (xs, p, 0)
  | k + 1, p, xs => if t.size ≤ p then (xs, p, 0) else if t.size < p + 7 then (xs, p, 14) else if frN t p < 1 ∨ 65536 < frN t p then (xs, p, 8) else
      if t.size < p + 7 + frN t p then (xs, p, 14) else if frCrc t p (frN t p) ≠ frSum t p then (xs, p, 8) else
        frF t k (p + 7 + frN t p) (xs ++ [t.extract (p + 7) (p + 7 + frN t p)])
theorem frF_end {t : ByteArray} {k p : Nat} {xs : List ByteArray} (h : t.size ≤ p) : frF t (k + 1) p xs = (xs, p, 0) := by rw [frF, if_pos h]
theorem frF_short {t : ByteArray} {k p : Nat} {xs : List ByteArray} (h : p < t.size) (h1 : t.size < p + 7) : frF t (k + 1) p xs = (xs, p, 14) := by rw [frF, if_neg (by omega), if_pos h1]
theorem frF_bad {t : ByteArray} {k p n : Nat} {xs : List ByteArray} (h1 : p + 7 ≤ t.size) (hn : frN t p = n) (h2 : n < 1 ∨ 65536 < n) : frF t (k + 1) p xs = (xs, p, 8) := by
  rw [frF, if_neg (by omega), if_neg (by omega), hn, if_pos h2]
theorem frF_less {t : ByteArray} {k p n : Nat} {xs : List ByteArray} (h1 : p + 7 ≤ t.size) (hn : frN t p = n) (h2 : 1 ≤ n) (h3 : n ≤ 65536) (h4 : t.size < p + 7 + n) : frF t (k + 1) p xs = (xs, p, 14) := by
  rw [frF, if_neg (by omega), if_neg (by omega), hn, if_neg (by omega), if_pos h4]
theorem frF_sum {t : ByteArray} {k p n c m : Nat} {xs : List ByteArray} (h1 : p + 7 ≤ t.size) (hn : frN t p = n) (h2 : 1 ≤ n) (h3 : n ≤ 65536) (h4 : p + 7 + n ≤ t.size) (hc : frCrc t p n = c) (hm : frSum t p = m) (h5 : c ≠ m) : frF t (k + 1) p xs = (xs, p, 8) := by
  rw [frF, if_neg (by omega), if_neg (by omega), hn, if_neg (by omega), if_neg (by omega), hc, hm, if_pos h5]
theorem frF_step {t : ByteArray} {k p n c : Nat} {xs : List ByteArray} (h1 : p + 7 ≤ t.size) (hn : frN t p = n) (h2 : 1 ≤ n) (h3 : n ≤ 65536) (h4 : p + 7 + n ≤ t.size) (hc : frCrc t p n = c) (hm : frSum t p = c) :
    frF t (k + 1) p xs = frF t k (p + 7 + n) (xs ++ [t.extract (p + 7) (p + 7 + n)]) := by
  rw [frF, if_neg (by omega), if_neg (by omega), hn, if_neg (by omega), if_neg (by omega), hc, hm, if_neg (by simp)]
theorem frF_len (t : ByteArray) : ∀ (k p : Nat) (xs : List ByteArray), (frF t k p xs).1.length ≤ xs.length + k
  | 0, p, xs => by simp [frF]
  | k + 1, p, xs => by
    rw [frF]
    repeat' split
    all_goals first | (have := frF_len t k (p + 7 + frN t p) (xs ++ [t.extract (p + 7) (p + 7 + frN t p)]); simp at this; omega) | (simp <;> omega)
theorem frF_at (t : ByteArray) : ∀ (k p : Nat) (xs : List ByteArray), p ≤ t.size → (frF t k p xs).2.1 ≤ t.size
  | 0, p, xs, h => by simpa [frF] using h
  | k + 1, p, xs, h => by
    rw [frF]
    split
    · exact h
    · split
      · exact h
      · split
        · exact h
        · split
          · exact h
          · split
            · exact h
            · exact frF_at t k _ _ (by omega)
def framesF (t : ByteArray) : List ByteArray × Nat × Int := frF t (t.size + 1) 0 []
theorem numL3 (l : List UInt8) (h : l.length ≤ 3) : numL l ≤ 16777215 := by have := numL_lt 3 l h; omega
theorem numL4 (l : List UInt8) (h : l.length ≤ 4) : numL l ≤ 4294967295 := by have := numL_lt 4 l h; omega

theorem bigNumber_val (x : ByteArray) (n : Nat) (w : World) (hx : numL x.data.toList = n) (hs : x.size ≤ 7) :
    Calls Try.prog 56 #[.string x] w fun e w' => e = .returned (.int .i64 (n : Int)) ∧ w = w' := by
  subst hx; exact bigNumber_any x w hs
theorem l02Of_val (x : ByteArray) (n : Nat) (w : World) (hx : numL x.data.toList = n) (hs : x.size ≤ 7) :
    Calls Try.prog 54 #[.string x] w fun e w' => e = .returned (.int .i64 (n : Int)) ∧ w = w' := by
  subst hx; exact l02Of_any x w hs
theorem check32_val (x : ByteArray) (n : Nat) (w : World) (hx : crc x.data.toList = n) (hs : x.size ≤ 1048576) :
    Calls Try.prog 57 #[.string x] w fun e w' => e = .returned (.int .i64 (n : Int)) ∧ w = w' := by
  subst hx; exact check32_any x w hs
theorem within_val (n lo hi : Int) (b : Bool) (w : World) (h : (decide (lo ≤ n) && decide (n ≤ hi)) = b) :
    Calls Try.prog 38 #[.int .i64 n, .int .i64 lo, .int .i64 hi] w fun e w' => e = .returned (.bool b) ∧ w = w' := by
  subst h; exact within_any n lo hi w

theorem ret_three {a b c a' b' c' : Value} (h : a = a') (h' : b = b') (h'' : c = c') : Ending.returned (.tuple #[a, b, c]) = .returned (.tuple #[a', b', c']) := by rw [h, h', h'']

set_option maxHeartbeats 1000000 in
theorem readFrames_any (s : ByteArray) (w : World) (hs : s.size ≤ 65536) :
    Calls Try.prog 34 #[.string s] w fun e w' => ∃ ao cap, e = .returned (.tuple #[.slice ao (framesF s).1.length cap, .int .i64 ((framesF s).2.1 : Int), .int .i64 (framesF s).2.2]) ∧ Mine w.heap.size w' ao (strs (framesF s).1) ∧ Below w.heap.size w w' := by
  obtain ⟨i0, hi, hz0, hz1, hz2⟩ := info_parts Try.info_istr
  obtain ⟨F, hF⟩ : ∃ F, F = framesF s := ⟨_, rfl⟩
  rw [← hF]
  have H := Lib.hid hF
  clear hF
  go_enter Try.func34, Try.ntmps34
  go_wp2
  go_loopw [5, 6] (fun v b wr => ∃ (k p j : Nat) (xs : List ByteArray) (ao : Option Addr) (cap : Nat), b = .int .i64 (p : Int) ∧ p ≤ s.size ∧ s.size < p + k ∧ j ≤ p ∧ v = .slice ao j cap ∧ Hid (F = frF s k p xs) ∧ wr.ownsRow w.heap.size 9 1 (.slice ao j cap) j (strs xs) ∧ Below w.heap.size w wr) (fun _ b _ => s.size - (intOf b).toNat)
  case atStart => exact ⟨s.size + 1, 0, 0, [], none, 0, rfl, Nat.zero_le _, by omega, Nat.zero_le _, rfl, H, World.ownsRow_nil _ _ _ _, Below.refl _ _⟩
  case round =>
    obtain ⟨k, p, j, xs, ao, cap, rfl, hp, hk, hjp, rfl, hf, hown, hb⟩ := hrel
    obtain ⟨k, rfl⟩ : ∃ k', k = k' + 1 := ⟨k - 1, by omega⟩
    have hL : Hid (xs.length = j) := by show _ = _; have := hown.1; simpa [strs] using this
    by_cases hpt : p < s.size
    · by_cases h7 : s.size < p + 7
      · have hN : Hid (F = (xs, p, 14)) := by show _ = _; rw [hf.out, frF_short hpt h7]
        have hr : (s.extract p s.size).size < 7 := by rw [ByteArray.size_extract]; omega
        go_wp2
        go_ret3
        exact ⟨ao, cap, by rw [hN.out, ← hL.out]; rfl, by rw [hN.out]; exact own_at hown, hb⟩
      · have hrs : 7 ≤ (s.extract p s.size).size := by rw [ByteArray.size_extract]; omega
        obtain ⟨n, hn⟩ : ∃ n, frN s p = n := ⟨_, rfl⟩
        have hn3 : n ≤ 16777215 := by rw [← hn]; exact numL3 _ (by rw [size_list, ByteArray.size_extract]; omega)
        have HNN := Lib.hid hn
        clear hn
        go_wp2_with fail
        obtain ⟨r, hr⟩ : ∃ r, r = s.extract p s.size := ⟨_, rfl⟩
        rw [← hr] at hrs ⊢
        have e3 : Hid (r.extract 0 3 = s.extract p (p + 3)) := by show _ = _; rw [hr, ext_ext _ _ _ _ (by omega)]; rfl
        have e7 : Hid (r.extract 3 7 = s.extract (p + 3) (p + 7)) := by show _ = _; rw [hr, ext_ext _ _ _ _ (by omega)]
        have hrz : r.size = s.size - p := by rw [hr, ByteArray.size_extract]; omega
        have HR := Lib.hid hr
        clear hr
        refine (bigNumber_val _ n _ (by rw [e3.out]; exact HNN.out) (by rw [ByteArray.size_extract]; omega)).mono ?_
        rintro e w' ⟨rfl, rfl⟩
        by_cases h1 : n < 1 ∨ 65536 < n
        · have hN : Hid (F = (xs, p, 8)) := by show _ = _; rw [hf.out, frF_bad (by omega) HNN.out h1]
          have hw : Hid ((decide ((1 : Int) ≤ (n : Int)) && decide ((n : Int) ≤ 65536)) = false) := by show _ = _; rw [Bool.and_eq_false_iff, decide_eq_false_iff_not, decide_eq_false_iff_not]; omega
          clear h1 hrz
          go_wp2_with fail
          refine (within_val _ _ _ false _ hw.out).mono ?_
          rintro e w' ⟨rfl, rfl⟩
          go_wp2
          go_ret3
          exact ⟨ao, cap, by rw [hN.out, ← hL.out]; rfl, by rw [hN.out]; exact own_at hown, hb⟩
        · have hw : Hid ((decide ((1 : Int) ≤ (n : Int)) && decide ((n : Int) ≤ 65536)) = true) := by show _ = _; rw [Bool.and_eq_true, decide_eq_true_eq, decide_eq_true_eq]; omega
          have h1a : 1 ≤ n := by omega
          have h1b : n ≤ 65536 := by omega
          clear h1
          by_cases h4 : s.size < p + 7 + n
          · have hN : Hid (F = (xs, p, 14)) := by show _ = _; rw [hf.out, frF_less (by omega) HNN.out h1a h1b h4]
            have h4' : r.size < 7 + n := by omega
            clear hrz
            go_wp2_with fail
            refine (within_val _ _ _ true _ hw.out).mono ?_
            rintro e w' ⟨rfl, rfl⟩
            go_wp2
            go_ret3
            exact ⟨ao, cap, by rw [hN.out, ← hL.out]; rfl, by rw [hN.out]; exact own_at hown, hb⟩
          · have h4' : 7 + n ≤ r.size := by omega
            have hp2 : p + 7 + n ≤ s.size := by omega
            have eD : Hid (r.extract 7 (7 + n) = s.extract (p + 7) (p + 7 + n)) := by show _ = _; rw [HR.out, ext_ext _ _ _ _ (by omega), ← Nat.add_assoc]
            have zC : Hid ((r.extract 0 3 ++ r.extract 7 (7 + n)).size ≤ 1048576) := by show _ ≤ _; rw [ByteArray.size_append, ByteArray.size_extract, ByteArray.size_extract]; omega
            have z7 : Hid ((r.extract 3 7).size ≤ 7) := by show _ ≤ _; rw [ByteArray.size_extract]; omega
            obtain ⟨c, hc⟩ : ∃ c, frCrc s p n = c := ⟨_, rfl⟩
            obtain ⟨m, hm⟩ : ∃ m, frSum s p = m := ⟨_, rfl⟩
            have HC : Hid (crc (r.extract 0 3 ++ r.extract 7 (7 + n)).data.toList = c) := by show _ = _; rw [e3.out, eD.out]; exact hc
            have HM : Hid (numL (r.extract 3 7).data.toList = m) := by show _ = _; rw [e7.out]; exact hm
            have rs1 : ∀ wx, (Instr.slice 9 (.string r) (some (.int .i64 3)) (some (.int .i64 7)) none).run Try.prog wx = .ok (.string (r.extract 3 7)) wx := fun wx => run_slice_string wx 9 r .i64 .i64 3 7 Try.underlying9 (by decide) (by decide) (by omega)
            have rs2 : ∀ wx, (Instr.slice 9 (.string r) none (some (.int .i64 3)) none).run Try.prog wx = .ok (.string (r.extract 0 3)) wx := fun wx => run_slice_string_h wx 9 r Try.underlying9 .i64 3 (by decide) (by omega)
            by_cases hcm : c = m
            · subst hcm
              have hS := Lib.hid (frF_step (k := k) (xs := xs) (by omega) HNN.out h1a h1b (by omega) hc hm)
              clear hc hm hrz
              go_wp2_with fail
              refine (within_val _ _ _ true _ hw.out).mono ?_
              rintro e w' ⟨rfl, rfl⟩
              go_wp2_with fail
              go_quiet ((first | (go_at_call 56; exact quiet_eq (bigNumber_val _ c _ HM.out z7.out)) | (go_at_call 57; exact quiet_eq (check32_val _ c _ HC.out zC.out))))
              go_wp2_with (at_builtin; refine wpList_append_lies _ rfl _ _ 39 rfl w.heap.size 9 i0 (.string ⟨#[]⟩) 1 16 Try.underlying39 hi hz0 hz1 hz2 rfl (by decide) _ _ _ rfl ((own_drewN _ hown).alloc _) ⟨_, 0, none⟩ 1 1 [.string (r.extract 7 (7 + n))] rfl rfl (fun j u hu => World.news_of_block (heap_alloc_new _ _) j u hu) (by intro u hu; simp at hu; subst hu; rfl) (by decide) (by unfold maxLen; omega) (by omega) (by have := hb.size; simp; omega) _ rfl ?_; intro g2 cap2 w2 hown2 hgrow2 hlie2 hlt2)
              have HO : Hid (w2.ownsRow w.heap.size 9 1 (.slice (some ⟨g2, 0, none⟩) (j + 1) cap2) (j + 1) (strs (xs ++ [s.extract (p + 7) (p + 7 + n)]))) := by
                show World.ownsRow _ _ _ _ _ _ _
                rw [← eD.out]; simpa [strs] using hown2
              have hF2 : Hid (F = frF s k (p + 7 + n) (xs ++ [s.extract (p + 7) (p + 7 + n)])) := by show _ = _; rw [hf.out, hS.out]
              have hb2 : Below w.heap.size w w2 := ((below_drewN nq hb).alloc (by exact hb.size) _).grown hgrow2 (by have := hb.size; simp; omega) (fun j hj => (hown.lt j hj).1)
              clear hown2 hgrow2 hlie2 hlt2 hown hb rs1 rs2
              go_wp2
              go_roundw
              case rel => exact ⟨k, p + 7 + n, j + 1, _, _, _, by go_num, hp2, by omega, by omega, rfl, hF2, HO.out, hb2⟩
              case measure => simp [intOf]; omega
            · have hS := Lib.hid (frF_sum (k := k) (xs := xs) (by omega) HNN.out h1a h1b (by omega) hc hm hcm)
              have hne : ((m : Int) != (c : Int)) = true := by simp; omega
              clear hc hm hrz hcm
              go_wp2_with fail
              refine (within_val _ _ _ true _ hw.out).mono ?_
              rintro e w' ⟨rfl, rfl⟩
              go_wp2_with fail
              go_quiet ((first | (go_at_call 56; exact quiet_eq (bigNumber_val _ m _ HM.out z7.out)) | (go_at_call 57; exact quiet_eq (check32_val _ c _ HC.out zC.out))))
              go_wp2
              go_ret3
              exact ⟨ao, cap, by rw [hf.out, hS.out, ← hL.out]; rfl, by rw [hf.out, hS.out]; exact own_at (own_drewN _ hown), below_drewN _ hb⟩
    · obtain rfl : p = s.size := by omega
      have hN : Hid (F = (xs, s.size, 0)) := by show _ = _; rw [hf.out, frF_end (Nat.le_refl _)]
      go_wp2
      go_ret3
      exact ⟨ao, cap, by rw [hN.out, ← hL.out]; rfl, by rw [hN.out]; exact own_at hown, hb⟩

end Go.Proofs.Ytceaanampdcaeaa
