/-
  Contracts of ReadHash of the given program and of its reference, and the walk of the law FnExactReadHash. Conditions: the library's error for bad syntax stands in its variable.
-/
import Derived.Test.YtfkpdinfoagfhaaDoorRdHash
namespace Go.Proofs.YtfkpdinfoagfhaaDoor
open Go.ChangeShapes Go.WideShapes Go.ChangeAt Go.RowKit
set_option linter.unusedVariables false
set_option linter.unusedSimpArgs false
set_option maxRecDepth 100000

theorem nibI_pos {c : UInt8} (h : nibV c < 16) : nibI c = (nibV c : Int) := if_pos h
theorem nibI_neg {c : UInt8} (h : ¬ nibV c < 16) : nibI c = -1 := if_neg h
theorem not_small {l : List UInt8} {i : Nat} (hi : i < l.length) (h : ¬ nibV (l.getD i 0) < 16) : ¬ smallB l = true := fun hs => h (smallB_ok hs i hi)

set_option maxHeartbeats 4000000 in
theorem specReadHash_any (t : ByteArray) (w : World) (hs : t.size ≤ maxLen) :
    Calls Tryd.prog 20 #[.string t] w fun e w' => e = .returned (.tuple #[.string (readHashR t).1, .int .i64 (readHashR t).2]) ∧ Below w.heap.size w w' := by
  obtain ⟨i0, hi, hz0, hz1, hz2⟩ := info_parts Tryd.info_u8
  unfold maxLen at hs
  by_cases h1 : 65536 < t.size
  · have H : Hid (readHashR t = (⟨#[]⟩, 2)) := if_pos h1
    go_enter Tryd.func20, Tryd.ntmps20
    go_wp2
    go_ret2
    exact ⟨by rw [H.out]; rfl, Below.refl _ _⟩
  by_cases h2 : t.size = 64
  · have hL : t.data.toList.length = 64 := by rw [size_list]; exact h2
    have hne : ((t.size : Int) != 64) = false := by rw [h2]; rfl
    have HR : Hid (readHashR t = if smallB t.data.toList = true then (⟨(decN nibV t.data.toList 32).toArray⟩, 0) else (⟨#[]⟩, 3)) := by
      show _ = _
      rw [readHashR, if_neg h1, if_neg (by omega)]
    have HL := Lib.hid hL
    have HS := Lib.hid h2
    have hs1 : 64 ≤ t.size := by omega
    have hs2 : t.size ≤ 64 := by omega
    clear hL h1 h2 hs
    go_enter Tryd.func20, Tryd.ntmps20
    go_wp2_with fail
    go_loopw [4, 5] (fun v i wr => ∃ k : Nat, k ≤ 32 ∧ ∃ p : Nat, p ≤ 64 ∧ Hid (p = 2 * k) ∧ i = .int .i64 p ∧ ∃ g cap, v = .slice (some ⟨g, 0, none⟩) k cap ∧ wr.ownsRow w.heap.size 5 1 (.slice (some ⟨g, 0, none⟩) k cap) k (u8s (decN nibV t.data.toList k)) ∧ Hid (okN nibV t.data.toList (2 * k)) ∧ Below w.heap.size w wr) (fun _ i _ => 64 - (intOf i).toNat)
    case atStart => exact ⟨0, Nat.zero_le _, 0, Nat.zero_le _, rfl, rfl, _, _, rfl, World.ownsRow_made _ _ 0 (Nat.le_refl _) (Nat.zero_le _) rfl, fun i hi => absurd hi (by omega), (Below.refl _ _).alloc (Nat.le_refl _) _⟩
    case round =>
      obtain ⟨k, hk, p, hp64, hp, rfl, g, cap, rfl, hown, hok, hb⟩ := hrel
      by_cases hkt : k < 32
      · have hp1 : p + 1 < 64 := by have := hp.out; omega
        have hps : p < t.size := by omega
        have hps1 : p + 1 < t.size := by omega
        have e0 : Hid (t.data.toList.getD (2 * k) 0 = t[p]) := by show _ = _; rw [← hp.out]; exact bytes_get' t hps
        have e1 : Hid (t.data.toList.getD (2 * k + 1) 0 = t[p + 1]) := by show _ = _; rw [← hp.out]; exact bytes_get' t hps1
        have hk1 : k + 1 ≤ 32 := hkt
        by_cases c0 : nibV t[p] < 16
        · by_cases c1 : nibV t[p + 1] < 16
          · have a0 := Lib.hid (nibI_pos c0)
            have a1 := Lib.hid (nibI_pos c1)
            have HD : Hid (decN nibV t.data.toList (k + 1) = decN nibV t.data.toList k ++ [UInt8.ofNat (16 * nibV t[p] + nibV t[p + 1])]) := by show _ = _; rw [decN_succ, e0.out, e1.out]
            have HOK : Hid (okN nibV t.data.toList (2 * (k + 1))) := by
              intro i hi
              by_cases i0 : i = 2 * k
              · rw [i0, e0.out]; exact c0
              · by_cases i1 : i = 2 * k + 1
                · rw [i1, e1.out]; exact c1
                · exact hok.out i (by omega)
            generalize nibV t[p] = x at *
            generalize nibV t[p + 1] = y at *
            clear hkt e0 e1 hok
            go_wp2_with fail
            refine (nibble_any t[p] _).mono ?_
            rintro e w1 ⟨rfl, rfl⟩
            rw [a0.out]
            go_wp2_with fail
            refine (nibble_any t[p + 1] _).mono ?_
            rintro e w1 ⟨rfl, rfl⟩
            rw [a1.out]
            have q0 : decide ((x : Int) < 0) = false := decide_eq_false (by omega)
            have q1 : decide ((y : Int) < 0) = false := decide_eq_false (by omega)
            go_wp2_with (at_builtin; refine wpList_append_lies _ rfl _ _ 22 rfl w.heap.size 5 i0 (.int .u8 0) 1 1 Tryd.underlying22 hi hz0 hz1 hz2 rfl (by decide) _ _ _ rfl (hown.alloc _) ⟨wr.heap.size, 0, none⟩ 1 1 [.int .u8 (16 * (x : Int) + (y : Int))] rfl rfl (fun j u hu => World.news_of_block (heap_alloc_new _ _) j u hu) (by intro u hu; simp at hu; subst hu; rfl) (by decide) (by unfold maxLen; omega) (by omega) (by have := hb.size; simp; omega) _ rfl ?_; intro g2 cap2 w2 hown2 hgrow2 hlie2 hlt2)
            have hb2 : Below w.heap.size w w2 := (hb.alloc (by exact hb.size) _).grown hgrow2 (by have := hb.size; simp; omega) (fun j hj => (hown.lt j hj).1)
            clear hown hgrow2 hlie2 hlt2 hb q0 q1
            go_roundw
            case rel => exact ⟨k + 1, hk1, p + 2, by omega, by show _ = _; rw [hp.out]; omega, by go_num, g2, cap2, rfl, by rw [HD.out, u8s_append, show u8s [UInt8.ofNat (16 * x + y)] = [.int .u8 (16 * (x : Int) + (y : Int))] from by simp only [u8s, List.map_cons, List.map_nil]; rw [ofNat_small (by omega)]; simp]; exact hown2, HOK, hb2⟩
            case measure => simp [intOf]; omega
          · have a0 := Lib.hid (nibI_pos c0)
            have a1 := Lib.hid (nibI_neg c1)
            have HE : Hid (readHashR t = (⟨#[]⟩, 3)) := by
              show _ = _
              rw [HR.out, if_neg (not_small (i := 2 * k + 1) (by rw [HL.out]; have := hp.out; omega) (by rw [e1.out]; exact c1))]
            clear HR hkt e0 e1 hok hown hp
            generalize nibV t[p] = x at *
            go_wp2_with fail
            refine (nibble_any t[p] _).mono ?_
            rintro e w1 ⟨rfl, rfl⟩
            rw [a0.out]
            go_wp2_with fail
            refine (nibble_any t[p + 1] _).mono ?_
            rintro e w1 ⟨rfl, rfl⟩
            rw [a1.out]
            have q0 : decide ((x : Int) < 0) = false := decide_eq_false (by omega)
            go_wp2
            go_ret2
            exact ⟨by rw [HE.out]; rfl, hb⟩
        · have a0 := Lib.hid (nibI_neg c0)
          have HE : Hid (readHashR t = (⟨#[]⟩, 3)) := by
            show _ = _
            rw [HR.out, if_neg (not_small (i := 2 * k) (by rw [HL.out]; have := hp.out; omega) (by rw [e0.out]; exact c0))]
          clear HR hkt e0 e1 hok hown hp
          go_wp2_with fail
          refine (nibble_any t[p] _).mono ?_
          rintro e w1 ⟨rfl, rfl⟩
          rw [a0.out]
          go_wp2_with fail
          refine (nibble_any t[p + 1] _).mono ?_
          rintro e w1 ⟨rfl, rfl⟩
          go_wp2
          go_ret2
          exact ⟨by rw [HE.out]; rfl, hb⟩
      · have hke : k = 32 := by omega
        have hpe : ¬ p < 64 := by have := hp.out; omega
        rw [hke] at hown hok
        have HE : Hid (readHashR t = (⟨(decN nibV t.data.toList 32).toArray⟩, 0)) := by
          show _ = _
          rw [HR.out, if_pos (smallB_of (by rw [HL.out]; exact hok.out))]
        have hcv := conv_at (P := Tryd.prog) 22 9 5 32 cap Tryd.underlying22 Tryd.underlying5 Tryd.underlying9 (show At wr (some ⟨g, 0, none⟩) (u8s (decN nibV t.data.toList 32)) from (own_at hown).at) (length_decN _ _ _)
        have HKE := Lib.hid hke
        rw [← hke] at hcv
        clear hown hok hke hkt hk hp HR
        have q0 : decide ((p : Int) < (t.size : Int)) = false := decide_eq_false (by omega)
        go_wp2
        go_ret2
        exact ⟨by rw [HE.out, HKE.out]; rfl, hb⟩
  · have H : Hid (readHashR t = (⟨#[]⟩, 3)) := by show _ = _; rw [readHashR, if_neg h1, if_pos (by omega)]
    have hne : ((t.size : Int) != 64) = true := by simp; omega
    clear h2
    go_enter Tryd.func20, Tryd.ntmps20
    go_wp2
    go_ret2
    exact ⟨by rw [H.out]; rfl, Below.refl _ _⟩
end Go.Proofs.YtfkpdinfoagfhaaDoor
