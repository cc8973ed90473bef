/-
  Contracts of the reference's ReadFrames. Conditions: bounds on what is handed in.
-/
import Derived.Test.YtceaanampdcaeaaReadFrames
import Derived.Deep.RegionWith
namespace Go.Proofs.Ytceaanampdcaeaa
open Go.ChangeShapes Go.WideShapes Go.ChangeAt Go.RowKit
set_option linter.unusedVariables false

def FramesPost (w : World) (F : List ByteArray × Nat × Int) (e : Ending) (w' : World) : Prop :=
  ∃ ao cap, e = .returned (.tuple #[.slice ao F.1.length cap, .int .i64 (F.2.1 : Int), .int .i64 F.2.2]) ∧ Mine w.heap.size w' ao (strs F.1) ∧ Below w.heap.size w w'
theorem framesPost {w : World} {F : List ByteArray × Nat × Int} {e : Ending} {w' : World} (ao : Option Addr) (cap : Nat) (xs : List ByteArray) (j p : Nat) (c : Int) (hF : F = (xs, p, c)) (hL : xs.length = j)
    (he : e = .returned (.tuple #[.slice ao j cap, .int .i64 (p : Int), .int .i64 c])) (hm : Mine w.heap.size w' ao (strs xs)) (hb : Below w.heap.size w w') : FramesPost w F e w' := by
  subst hF hL; exact ⟨ao, cap, he, hm, hb⟩

theorem l01Check_val (ao : Option Addr) (len cap : Nat) (l : List UInt8) (n : Nat) (w : World) (ha : At w ao (u8s l)) (hl : l.length = len) (hs : len ≤ 1048576) (hc : crc l = n) :
    Calls Try.prog 55 #[.slice ao len cap] w fun e w' => e = .returned (.int .i64 (n : Int)) ∧ w = w' := by
  subst hc; exact l01Check_any ao len cap l w ha hl hs

set_option maxHeartbeats 1000000 in
set_option maxRecDepth 100000 in
theorem l02Frames_any (s : ByteArray) (w : World) (hs : s.size ≤ 65536) :
    Calls Try.prog 33 #[.string s] w (FramesPost w (framesF s)) := by
  obtain ⟨i0, hi, hz0, hz1, hz2⟩ := info_parts Try.info_istr
  obtain ⟨F, hF⟩ : ∃ F, F = framesF s := ⟨_, rfl⟩
  rw [← hF]
  have H := Lib.hid hF
  clear hF
  go_enter Try.func33, Try.ntmps33
  go_wp2
  go_loopw [5, 6] (fun v b wr => ∃ (k p j g : Nat) (xs : List ByteArray) (cap : Nat), b = .int .i64 (p : Int) ∧ p ≤ s.size ∧ s.size < p + k ∧ j ≤ p ∧ v = .slice (some ⟨g, 0, none⟩) j cap ∧ Hid (F = frF s k p xs) ∧ wr.ownsRow w.heap.size 9 1 (.slice (some ⟨g, 0, none⟩) j cap) j (strs xs) ∧ Below w.heap.size w wr) (fun _ b _ => s.size - (intOf b).toNat)
  case atStart => exact ⟨s.size + 1, 0, 0, _, [], _, rfl, Nat.zero_le _, by omega, Nat.zero_le _, rfl, H, World.ownsRow_made _ _ 0 (Nat.le_refl _) (Nat.zero_le _) rfl, (Below.refl _ _).alloc (Nat.le_refl _) _⟩
  case round =>
    obtain ⟨k, p, j, g, xs, cap, rfl, hp, hk, hjp, rfl, hf, hown, hb⟩ := hrel
    obtain ⟨k, rfl⟩ : ∃ k', k = k' + 1 := ⟨k - 1, by omega⟩
    have hL : Hid (xs.length = j) := by show _ = _; have := hown.1; simpa [strs] using this
    by_cases hpt : p < s.size
    · by_cases h7 : s.size < p + 7
      · have hN : Hid (F = (xs, p, 14)) := by show _ = _; rw [hf.out, frF_short hpt h7]
        have h7' : (s.size : Int) - (p : Int) < 7 := by omega
        go_wp2
        go_ret3
        exact framesPost _ cap xs j _ _ hN.out hL.out rfl (own_at hown) hb
      · have h7' : 7 ≤ (s.size : Int) - (p : Int) := by omega
        obtain ⟨n, hn⟩ : ∃ n, frN s p = n := ⟨_, rfl⟩
        have hn3 : n ≤ 16777215 := by rw [← hn]; exact numL3 _ (by rw [size_list, ByteArray.size_extract]; omega)
        have HNN := Lib.hid hn
        clear hn
        go_wp2_with fail
        refine (l02Of_val _ n _ HNN.out (by rw [ByteArray.size_extract]; omega)).mono ?_
        rintro e w' ⟨rfl, rfl⟩
        by_cases h1 : n < 1 ∨ 65536 < n
        · have hN : Hid (F = (xs, p, 8)) := by show _ = _; rw [hf.out, frF_bad (by omega) HNN.out h1]
          rcases h1 with h1 | h1
          · have h1' : (n : Int) < 1 := by omega
            go_wp2
            go_ret3
            exact framesPost _ cap xs j _ _ hN.out hL.out rfl (own_at hown) hb
          · have h1' : (65536 : Int) < (n : Int) := by omega
            go_wp2
            all_goals try (exfalso; omega)
            go_ret3
            exact framesPost _ cap xs j _ _ hN.out hL.out rfl (own_at hown) hb
        · have h1a : 1 ≤ n := by omega
          have h1b : n ≤ 65536 := by omega
          have h1c : (1 : Int) ≤ (n : Int) := by omega
          have h1d : (n : Int) ≤ 65536 := by omega
          clear h1
          by_cases h4 : s.size < p + 7 + n
          · have hN : Hid (F = (xs, p, 14)) := by show _ = _; rw [hf.out, frF_less (by omega) HNN.out h1a h1b h4]
            have h4' : (s.size : Int) - (p : Int) - 7 < (n : Int) := by omega
            go_wp2
            all_goals try (exfalso; omega)
            go_ret3
            exact framesPost _ cap xs j _ _ hN.out hL.out rfl (own_at hown) hb
          · have h4' : (n : Int) ≤ (s.size : Int) - (p : Int) - 7 := by omega
            have hp2 : p + 7 + n ≤ s.size := by omega
            have zC : Hid ((s.extract p (p + 3) ++ s.extract (p + 7) (p + 7 + n)).size ≤ 1048576) := by show _ ≤ _; rw [ByteArray.size_append, ByteArray.size_extract, ByteArray.size_extract]; omega
            have zS : Hid ((s.extract p (p + 3) ++ s.extract (p + 7) (p + 7 + n)).size = 3 + n) := by show _ = _; rw [ByteArray.size_append, ByteArray.size_extract, ByteArray.size_extract]; omega
            have z7 : Hid ((s.extract (p + 3) (p + 7)).size ≤ 7) := by show _ ≤ _; rw [ByteArray.size_extract]; omega
            obtain ⟨c, hc⟩ : ∃ c, frCrc s p n = c := ⟨_, rfl⟩
            obtain ⟨m, hm⟩ : ∃ m, frSum s p = m := ⟨_, rfl⟩
            have HC : Hid (crc (s.extract p (p + 3) ++ s.extract (p + 7) (p + 7 + n)).data.toList = c) := hc
            have HM : Hid (numL (s.extract (p + 3) (p + 7)).data.toList = m) := hm
            have rs1 : ∀ wx, (Instr.slice 9 (.string s) (some (.int .i64 ((p : Int) + 3))) (some (.int .i64 ((p : Int) + 7))) none).run Try.prog wx = .ok (.string (s.extract (p + 3) (p + 7))) wx := run_slice_nat 9 Try.underlying9 s _ _ _ _ (by simp) (by simp) (by omega) (by omega)
            have rs2 : ∀ wx, (Instr.slice 9 (.string s) (some (.int .i64 (p : Int))) (some (.int .i64 ((p : Int) + 3))) none).run Try.prog wx = .ok (.string (s.extract p (p + 3))) wx := run_slice_nat 9 Try.underlying9 s _ _ _ _ rfl (by simp) (by omega) (by omega)
            have v1 : IntKind.i64.wrap ((p : Int) + 3) = (p : Int) + 3 := by rw [IntKind.wrap_i64]; omega
            have v2 : IntKind.i64.wrap ((p : Int) + 7) = (p : Int) + 7 := by rw [IntKind.wrap_i64]; omega
            go_wp2_with fail
            obtain ⟨cp, ob, hcv, hat⟩ := bytes_conv (P := Try.prog) 9 29 5 (s.extract p (p + 3) ++ s.extract (p + 7) (p + 7 + n)) (3 + n) (by rw [ByteArray.size_append, ByteArray.size_extract, ByteArray.size_extract]; omega) Try.underlying9 Try.underlying29 Try.underlying5
            go_region_with ((first | (go_at_call 54; refine (l02Of_val _ m _ HM.out z7.out).mono ?_; rintro e w' ⟨rfl, rfl⟩) | (go_at_call 55; refine (l01Check_val _ _ _ (s.extract p (p + 3) ++ s.extract (p + 7) (p + 7 + n)).data.toList c _ ?_ ?_ (by omega) HC.out).mono ?_; (exact (hat.out wr.drew 0 (Nat.zero_le _)).at); (have := zS.out; rw [size_list]; exact this); rintro e w' ⟨rfl, rfl⟩)))
            clear rs1 rs2 hcv hat v1 v2
            have hb1 : Below w.heap.size w (wr.alloc (ob wr.drew)).drew.drew := (hb.alloc hb.size _).drew.drew
            have hown1 : (wr.alloc (ob wr.drew)).drew.drew.ownsRow w.heap.size 9 1 (.slice (some ⟨g, 0, none⟩) j cap) j (strs xs) := (hown.alloc _).drew.drew
            clear hb hown
            generalize (wr.alloc (ob wr.drew)).drew.drew = wz at *
            by_cases hcm : c = m
            · subst hcm
              have hF2 : Hid (F = frF s k (p + 7 + n) (xs ++ [s.extract (p + 7) (p + 7 + n)])) := by show _ = _; rw [hf.out, frF_step (by omega) HNN.out h1a h1b (by omega) hc hm]
              have hzw := hb1.size
              clear hc hm
              go_wp2_with (at_builtin; refine wpList_append_lies _ rfl _ _ 39 rfl w.heap.size 9 i0 (.string ⟨#[]⟩) 1 16 Try.underlying39 hi hz0 hz1 hz2 rfl (by decide) _ _ _ rfl (hown1.alloc _) ⟨_, 0, none⟩ 1 1 [.string (s.extract (p + 7) (p + 7 + n))] rfl rfl (fun j u hu => World.news_of_block (heap_alloc_new _ _) j u hu) (by intro u hu; simp at hu; subst hu; rfl) (by decide) (by unfold maxLen; omega) (by omega) (by simp; omega) _ rfl ?_; intro g2 cap2 w2 hown2 hgrow2 hlie2 hlt2)
              have HO : Hid (w2.ownsRow w.heap.size 9 1 (.slice (some ⟨g2, 0, none⟩) (j + 1) cap2) (j + 1) (strs (xs ++ [s.extract (p + 7) (p + 7 + n)]))) := by
                show World.ownsRow _ _ _ _ _ _ _
                simpa [strs] using hown2
              have hb2 : Below w.heap.size w w2 := (hb1.alloc hb1.size _).grown hgrow2 (by simp; omega) (fun j hj => (hown1.lt j hj).1)
              clear hown2 hgrow2 hlie2 hlt2 hown1 hb1
              go_wp2
              go_roundw
              case rel => exact ⟨k, p + 7 + n, j + 1, _, _, _, by go_num, hp2, by omega, by omega, rfl, hF2, HO.out, hb2⟩
              case measure => simp [intOf]; omega
            · have hN : Hid (F = (xs, p, 8)) := by show _ = _; rw [hf.out, frF_sum (by omega) HNN.out h1a h1b (by omega) hc hm hcm]
              have hne : ((c : Int) != (m : Int)) = true := by simp; omega
              clear hc hm hcm
              go_wp2
              go_ret3
              exact framesPost _ cap xs j _ _ hN.out hL.out rfl (own_at hown1) hb1
    · obtain rfl : p = s.size := by omega
      have hN : Hid (F = (xs, s.size, 0)) := by show _ = _; rw [hf.out, frF_end (Nat.le_refl _)]
      go_wp2
      go_ret3
      exact framesPost _ cap xs j _ _ hN.out hL.out rfl (own_at hown) hb

end Go.Proofs.Ytceaanampdcaeaa
