/-
  Contracts of the source's bytes and of BytesOf: bytes, no more than asked for. Conditions: the code is no longer than a million bytes.
-/
import Derived.Test.YtfkpdinfoagfhaaDoorSource
namespace Go.Proofs.YtfkpdinfoagfhaaDoor
open Go.ChangeShapes Go.WideShapes Go.ChangeAt Go.RowKit
set_option linter.unusedVariables false

set_option maxRecDepth 20000 in
set_option maxHeartbeats 400000 in
theorem srcBytes_any (w : World) (b : Nat) (a : Option Addr) (cap : Nat) (l : List UInt8) (p n : Nat) (h : Src w b a cap l p) (hp : p ≤ 1152921504606846976) (hl : l.length ≤ 4611686018427387904) (hbw : b < w.heap.size) (hn : n ≤ 1000) :
    Calls Tryd.prog 33 #[.pointer (some ⟨b, 0, none⟩), .int .i64 n] w fun e w' => ∃ (g m c : Nat) (zs : List UInt8), e = .returned (.slice (some ⟨g, 0, none⟩) m c) ∧ zs.length = m ∧ m ≤ n ∧ Mine w.heap.size w' (some ⟨g, 0, none⟩) (u8s zs) ∧ w.grownBy w' (some b) := by
  obtain ⟨i0, hi, hz0, hz1, hz2⟩ := info_parts Tryd.info_i8
  have HS : Hid (Src (w.alloc (.cells #[] 5)) b a cap l p) := src_alloc h hbw _
  have HAT : Hid (At w a (u8s l)) := by obtain ⟨_, _, _, hat, _⟩ := h; exact hat
  have HNX := fun wx (hx : Src wx b a cap l p) => next_any wx b a cap l p (n + 1) hx (by omega) hl (by omega)
  have hc1 : ((n + 1 : Nat) : Int) = (n : Int) + 1 := by omega
  rw [hc1] at HNX
  have HN := Lib.hid HNX
  clear h HNX hc1
  go_enter Tryd.func33, Tryd.ntmps33
  go_wp2_with fail
  refine (HN.out _ HS.out).mono ?_
  rintro e w1 ⟨x, q, rfl, hx, hq, hs1, hg1⟩
  have hown0 : (w.alloc (.cells #[] 5)).ownsRow w.heap.size 5 1 (.slice (some ⟨w.heap.size, 0, none⟩) 0 0) 0 [] := World.ownsRow_made _ _ 0 (Nat.le_refl _) (Nat.zero_le _) rfl
  have hown1 := hown0.kept hg1 (Or.inr (by simp [Value.ownBlock]; omega))
  have G1 : w.grownBy w1 (some b) := gb_trans (grownBy_of_below _ ((Below.refl _ _).alloc (Nat.le_refl _) _)) hg1
  have H1 := Lib.hid hs1
  have hx5 : x ≤ n := by omega
  clear hs1 hg1 hown0 hx HN
  go_wp2_with fail
  go_loopw [5, 6] (fun v i wr => ∃ k m q g cap2 : Nat, ∃ zs : List UInt8, m + k ≤ n ∧ q ≤ p + 3 + 3 * m ∧ i = .int .i64 (k : Int) ∧ v = .slice (some ⟨g, 0, none⟩) m cap2 ∧ Hid (Src wr b a cap l q) ∧ wr.ownsRow w.heap.size 5 1 (.slice (some ⟨g, 0, none⟩) m cap2) m (u8s zs) ∧ w.grownBy wr (some b)) (fun _ i _ => (intOf i).toNat)
  case atStart => exact ⟨x, 0, q, _, 0, [], by omega, by omega, rfl, rfl, H1, hown1, G1⟩
  case round =>
    obtain ⟨k, m, q2, g, cap2, zs, hmk, hq2, rfl, rfl, hs, hown, hG⟩ := hrel
    clear H1 hown1 G1
    have hzr : w.heap.size ≤ wr.heap.size := hG.size
    have hgb := (hown.lt g rfl).1
    by_cases hk : 0 < k
    · obtain ⟨k, rfl⟩ : ∃ k', k = k' + 1 := ⟨k - 1, by omega⟩
      have HC := Lib.hid (next_any wr b a cap l q2 256 hs.out (by omega) hl (by omega))
      go_wp2_with fail
      refine HC.out.mono ?_
      rintro e w2 ⟨s, q3, rfl, hx, hq3, hs2, hg2⟩
      have hx2 : s < 256 := by omega
      have hz2' : wr.heap.size ≤ w2.heap.size := hg2.size
      have hownA := hown.kept hg2 (Or.inr (by simp [Value.ownBlock]; omega))
      have GA : w.grownBy w2 (some b) := gb_trans hG hg2
      have HS3 := Lib.hid hs2
      clear hs2 hg2 hs hown hG hx HC
      go_wp2_with (at_builtin; (refine wpList_append_lies _ rfl _ _ 22 rfl w.heap.size 5 i0 (.int .u8 0) 1 1 Tryd.underlying22 hi hz0 hz1 hz2 rfl (by decide) _ _ _ rfl (hownA.alloc _) ⟨w2.heap.size, 0, none⟩ 1 1 [.int .u8 (s : Int)] rfl rfl (fun j u hu => World.news_of_block (heap_alloc_new _ _) j u hu) (by intro u hu; simp at hu; subst hu; rfl) (by decide) (by unfold maxLen; omega) (by omega) (by simp; omega) _ rfl ?_; intro g3 cap3 w3 hown3 hgrow3 hlie3 hlt3))
      have hgne : g ≠ b := by omega
      have hbz : b < w2.heap.size := by omega
      have hblk : ∀ k, k < w2.heap.size → k ≠ g → w3.heap[k]? = w2.heap[k]? := fun k hk hkg => by
        rw [hgrow3.block k (by simp; omega) (fun e => hkg (Option.some.inj (show some k = some g from e)))]
        exact ((Below.refl w2.heap.size w2).alloc (Nat.le_refl _) _).block k hk
      have hz3 : w2.heap.size ≤ w3.heap.size := by have := hgrow3.size; simp at this; omega
      have GB : w.grownBy w3 (some b) := ⟨hgrow3.os.trans GA.os, hgrow3.tape.trans GA.tape, hgrow3.output.trans GA.output, by have := GA.size; omega, fun k hk hkb => (hblk k (by omega) (by omega)).trans (GA.block k hk hkb)⟩
      have HS4 : Hid (Src w3 b a cap l q3) := by
        obtain ⟨sd, hsd, hh, hat, hne⟩ := HS3.out
        exact ⟨sd, hsd, by rw [hblk b hbz (by omega)]; exact hh, at_grown HAT.out hne GB, hne⟩
      clear hgrow3 hlie3 hlt3 hownA GA HS3 hblk
      go_roundw
      case rel => exact ⟨k, m + 1, q3, g3, cap3, zs ++ [UInt8.ofNat s], by omega, by omega, by go_num, rfl, HS4, by rw [u8s_append, show u8s [UInt8.ofNat s] = [.int .u8 (s : Int)] from by simp [u8s]; omega]; exact hown3, GB⟩
      case measure => simp [intOf] <;> omega
    · obtain rfl : k = 0 := by omega
      have hL : Hid (zs.length = m) := by show _ = _; have := hown.1; simpa [u8s] using this
      go_wp2_with fail
      go_ret
      exact ⟨g, m, cap2, zs, rfl, hL.out, by omega, own_at hown, hG⟩

theorem bytesOf_any (w : World) (a : Option Addr) (len cap n : Nat) (l : List UInt8) (ha : At w a (u8s l)) (hl : l.length = len) (hs : len ≤ 1048576) (hn : n ≤ 1000) :
    Calls Tryd.prog 19 #[.slice a len cap, .int .i64 n] w fun e w' => ∃ (g m c : Nat) (zs : List UInt8), e = .returned (.slice (some ⟨g, 0, none⟩) m c) ∧ zs.length = m ∧ m ≤ n ∧ Mine w.heap.size w' (some ⟨g, 0, none⟩) (u8s zs) ∧ Below w.heap.size w w' := by
  have hb0 : Below w.heap.size w (w.alloc (.cells #[.slice a len cap, .int .i64 0, .int .i64 ((len : Int) % 1000)] 68)) := (Below.refl _ _).alloc (Nat.le_refl _) _
  have hS : Hid (Src (w.alloc (.cells #[.slice a len cap, .int .i64 0, .int .i64 ((len : Int) % 1000)] 68)) w.heap.size a cap l 0) := by
    refine ⟨len % 1000, by omega, ?_, ha.below hb0 (Nat.le_refl _), ?_⟩
    · rw [heap_alloc_new, hl]; simp
    · rcases ha with h | ⟨b1, o1, rfl, hc⟩
      · exact .inl h
      · by_cases he : u8s l = []
        · exact .inl he
        · refine .inr fun x hx => ?_
          cases hx
          have := World.block_lt_of_cell? w _ (hc 0 (List.length_pos_iff.2 he))
          show b1 ≠ w.heap.size
          have h2 : b1 < w.heap.size := this
          omega
  have HL := Lib.hid hl
  clear hl
  go_enter Tryd.func19, Tryd.ntmps19
  go_wp2_with fail
  refine (source_any w a len cap).mono ?_
  rintro e w1 ⟨rfl, rfl⟩
  go_wp2_with fail
  refine (srcBytes_any _ w.heap.size a cap l 0 n hS.out (by omega) (by have := HL.out; omega) (by simp) hn).mono ?_
  rintro e w2 ⟨g, m, c, zs, rfl, h1, h2, h3, h4⟩
  have hb2 : Below w.heap.size w w2 := hb0.grown h4 (by simp) (fun k hk => by cases hk; exact Nat.le_refl _)
  have H1 := Lib.hid h1
  clear h4 h1
  go_wp2_with fail
  go_ret
  exact ⟨g, m, c, zs, rfl, H1.out, h2, h3.mono (by simp), hb2⟩
end Go.Proofs.YtfkpdinfoagfhaaDoor
