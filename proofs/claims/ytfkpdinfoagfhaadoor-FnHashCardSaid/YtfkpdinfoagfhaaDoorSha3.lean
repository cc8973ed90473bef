/-
  Contract of the given program's hash: SHA-256 of bytes. Conditions: a bound on the length, the tables stand.
-/
import Derived.Test.YtfkpdinfoagfhaaDoorSha2
import Derived.Test.YtfkpdinfoagfhaaDoorShelf
namespace Go.Proofs.YtfkpdinfoagfhaaDoor
open Go.ChangeShapes Go.WideShapes Go.ChangeAt Go.RowKit
set_option linter.unusedVariables false
set_option linter.unusedSimpArgs false
set_option maxRecDepth 100000

/-- the words of the beginning stand -/
def Start (w : World) : Prop := ∀ i, i < 8 → w.cell? ⟨0, i, none⟩ = some (.int .u32 (startW.list.getD i 0 : Nat))
theorem Start.below {C : Nat} {w w' : World} (h : Start w) (hb : Below C w w') (hC : 0 < C) : Start w' := fun i hi => by
  rw [cell_congr (hb.block _ hC)]; exact h i hi

theorem repeatL_zero : ∀ n, Lib.repeatL [0] n = List.replicate n 0
  | 0 => rfl
  | n + 1 => by simp [Lib.repeatL, repeatL_zero n, List.replicate_succ]
/-- what is still to be taken in, behind some blocks -/
theorem all_done (l : List UInt8) (k : Nat) (hk : k ≤ (padded l).length / 64) : ((padded l).drop (64 * k)).isEmpty = decide (k = (padded l).length / 64) := by
  have h := (padded_length l).1
  by_cases he : k = (padded l).length / 64
  · have : (padded l).length ≤ 64 * k := by omega
    rw [List.drop_eq_nil_of_le this]; simp [he]
  · have : 64 * k < (padded l).length := by omega
    simp only [he, decide_false]
    rw [List.isEmpty_eq_false_iff]
    intro hn
    have := congrArg List.length hn
    simp at this; omega
theorem block_size (l : List UInt8) (k : Nat) (hk : k < (padded l).length / 64) : 64 ≤ ((padded l).drop (64 * k)).length := by
  have h := (padded_length l).1
  simp; omega
def outW (s : Wds) (k : Nat) : List UInt8 := (s.list.take k).flatMap (fun x => bigL x 4)
theorem outW_succ (s : Wds) (k : Nat) (hk : k < 8) : outW s (k + 1) = outW s k ++ bigL (s.list.getD k 0) 4 := by
  rcases (show k = 0 ∨ k = 1 ∨ k = 2 ∨ k = 3 ∨ k = 4 ∨ k = 5 ∨ k = 6 ∨ k = 7 by omega) with rfl | rfl | rfl | rfl | rfl | rfl | rfl | rfl <;> simp [outW, Wds.list, List.take_succ_cons, List.flatMap_cons]
theorem outW_all (l : List UInt8) : outW (blocksW (padded l) ((padded l).length / 64)) 8 = sha l := rfl
theorem list_lt {s : Wds} (h : s.ok) (k : Nat) : s.list.getD k 0 < 4294967296 := by
  obtain ⟨ha, hb, hc, hd, he, hf, hg, hh⟩ := h
  exact getD_lt (l := s.list) (by simp only [Wds.list, List.mem_cons, List.not_mem_nil, or_false]; rintro x (rfl | rfl | rfl | rfl | rfl | rfl | rfl | rfl) <;> assumption) k

def szOf : Value → Nat
  | .string X => X.size
  | _ => 0
theorem zeros_any (z : Nat) (w : World) (hz : z ≤ 64) :
    Calls Tryd.prog 39 #[.string ⟨#[0]⟩, .int .i64 (z : Int)] w fun e w' => e = .returned (.string ⟨(List.replicate z (0 : UInt8)).toArray⟩) ∧ Below w.heap.size w w' := by
  rcases (show z = 0 ∨ z = 1 ∨ 2 ≤ z by omega) with rfl | rfl | h2
  · refine (Tryd.strings_Repeat_zero ⟨#[0]⟩ w).mono ?_
    rintro e w' ⟨he, rfl⟩
    exact ⟨he, Below.refl _ _⟩
  · refine (Tryd.strings_Repeat_one ⟨#[0]⟩ w).mono ?_
    rintro e w' ⟨he, rfl⟩
    exact ⟨he, Below.refl _ _⟩
  · refine (Tryd.strings_Repeat_main ⟨#[0]⟩ z w h2 (by omega) (by show 1 * z ≤ _; omega) (by decide)).mono ?_
    rintro e w' ⟨he, hb⟩
    exact ⟨by rw [he, ← repeatL_zero], hb⟩

set_option maxHeartbeats 4000000 in
theorem hash_any (s : ByteArray) (w : World) (hs : s.size ≤ 1000000000) (hR : Rnd w) (hS : Start w) (hg1 : 1 < w.heap.size) (hg2 : 0 < w.heap.size) :
    Calls Tryd.prog 23 #[.string s] w fun e w' => e = .returned (.string ⟨(sha s.data.toList).toArray⟩) ∧ Below w.heap.size w w' := by
  have HR := Lib.hid hR
  have HG1 := Lib.hid hg1
  have m0 := hS 0 (by decide)
  have m1 := hS 1 (by decide)
  have m2 := hS 2 (by decide)
  have m3 := hS 3 (by decide)
  have m4 := hS 4 (by decide)
  have m5 := hS 5 (by decide)
  have m6 := hS 6 (by decide)
  have m7 := hS 7 (by decide)
  obtain ⟨st, hst⟩ : ∃ st, startW = st := ⟨_, rfl⟩
  rw [hst] at m0 m1 m2 m3 m4 m5 m6 m7
  simp only [Wds.list, List.getD_cons_zero, List.getD_cons_succ] at m0 m1 m2 m3 m4 m5 m6 m7
  have HST := Lib.hid hst
  obtain ⟨r, hr⟩ : ∃ r, s.size % 64 = r := ⟨_, rfl⟩
  obtain ⟨q, hq⟩ : ∃ q, 119 - r = q := ⟨_, rfl⟩
  obtain ⟨z, hz⟩ : ∃ z, q % 64 = z := ⟨_, rfl⟩
  obtain ⟨m, hmm⟩ : ∃ m, 8 * s.size = m := ⟨_, rfl⟩
  have r1 : (s.size : Int) % 64 = (r : Int) := by omega
  have q1 : (119 : Int) - (r : Int) = (q : Int) := by omega
  have z1 : (q : Int) % 64 = (z : Int) := by omega
  have e1 : (8 : Int) * (s.size : Int) = (m : Int) := by omega
  have hm1 : m ≤ 8000000000 := by omega
  have hz1 : z ≤ 64 := by omega
  have HZ : Hid (z = zerosOf s.data.toList.length) := by show _ = _; rw [← Lib.size_eq, zerosOf]; omega
  have HM : Hid (m = 8 * s.data.toList.length) := by show _ = _; rw [← Lib.size_eq]; omega
  clear hS hR hg1 hst hr hq hz hmm
  go_enter Tryd.func23, Tryd.ntmps23
  go_wp2_with fail
  have hb1 : Below w.heap.size w (w.alloc (.cells #[.int .u32 st.a, .int .u32 st.b, .int .u32 st.c, .int .u32 st.d, .int .u32 st.e, .int .u32 st.f, .int .u32 st.g, .int .u32 st.h] 60)) := (Below.refl _ _).alloc (Nat.le_refl _) _
  have hw1 : Wd (w.alloc (.cells #[.int .u32 st.a, .int .u32 st.b, .int .u32 st.c, .int .u32 st.d, .int .u32 st.e, .int .u32 st.f, .int .u32 st.g, .int .u32 st.h] 60)) w.heap.size 0 st.list := wd_block (heap_alloc_new _ _) rfl
  have hs1 : w.heap.size < (w.alloc (.cells #[.int .u32 st.a, .int .u32 st.b, .int .u32 st.c, .int .u32 st.d, .int .u32 st.e, .int .u32 st.f, .int .u32 st.g, .int .u32 st.h] 60)).heap.size := by simp
  clear m0 m1 m2 m3 m4 m5 m6 m7
  generalize (w.alloc (.cells #[.int .u32 st.a, .int .u32 st.b, .int .u32 st.c, .int .u32 st.d, .int .u32 st.e, .int .u32 st.f, .int .u32 st.g, .int .u32 st.h] 60)) = W1 at *
  refine (zeros_any z _ hz1).mono ?_
  rintro e W2 ⟨rfl, hb2⟩
  obtain ⟨Z, hZ⟩ : ∃ Z : ByteArray, (⟨(List.replicate z (0 : UInt8)).toArray⟩ : ByteArray) = Z := ⟨_, rfl⟩
  rw [hZ]
  have zs : Z.size ≤ 64 := by rw [← hZ, Lib.size_eq]; simpa using hz1
  have HZ2 := Lib.hid hZ
  clear hZ
  have hw2 : Wd W2 w.heap.size 0 st.list := hw1.below hb2 hs1
  have hb3 : Below w.heap.size w W2 := hb1.trans (hb2.mono (Nat.le_of_lt hs1))
  have hs2 : w.heap.size < W2.heap.size := Nat.lt_of_lt_of_le hs1 hb2.size
  clear hw1 hb1 hs1 hb2
  go_wp2_with fail
  refine (bigBytes_any m 8 W2 (by omega) (by decide)).mono ?_
  rintro e W3 ⟨rfl, hb4⟩
  obtain ⟨G, hG⟩ : ∃ G : ByteArray, (⟨(bigL m 8).toArray⟩ : ByteArray) = G := ⟨_, rfl⟩
  rw [hG]
  have gs : G.size = 8 := by rw [← hG, Lib.size_eq]; exact length_bigL _ _
  have hw3 : Wd W3 w.heap.size 0 st.list := hw2.below hb4 hs2
  have hb5 : Below w.heap.size w W3 := hb3.trans (hb4.mono (Nat.le_of_lt hs2))
  have hs3 : w.heap.size < W3.heap.size := Nat.lt_of_lt_of_le hs2 hb4.size
  clear hw2 hb3 hs2 hb4
  obtain ⟨l, hl⟩ : ∃ l, s.data.toList = l := ⟨_, rfl⟩
  obtain ⟨A, hA⟩ : ∃ A : ByteArray, s ++ (⟨#[128]⟩ : ByteArray) ++ Z ++ G = A := ⟨_, rfl⟩
  have HA : Hid (A.data.toList = padded l) := by
    show _ = _
    rw [← hA, ← hG, ← HZ2.out, ← hl, padded, HZ.out, HM.out]
    simp [ByteArray.data_append]
  have HL := Lib.hid hl
  clear hG HZ HM hl
  go_wp2_with fail
  obtain ⟨n, hn⟩ : ∃ n, (padded l).length / 64 = n := ⟨_, rfl⟩
  have HN := Lib.hid hn
  have HST2 : Hid (st = blocksW (padded l) 0) := HST.out.symm
  clear hn r1 q1 z1 e1 hA zs gs HST
  go_loopw [5] (fun v wr => ∃ k : Nat, k ≤ n ∧ ∃ X : ByteArray, v = .string X ∧ Hid (X.data.toList = (padded l).drop (64 * k)) ∧ Wd wr w.heap.size 0 (blocksW (padded l) k).list ∧ Below w.heap.size w wr ∧ w.heap.size < wr.heap.size) (fun v _ => szOf v)
  case atStart => exact ⟨0, Nat.zero_le _, A, rfl, by show _ = _; rw [HA.out, Nat.mul_zero, List.drop_zero], by rw [← HST2.out]; exact hw3, hb5, hs3⟩
  case round =>
    obtain ⟨k, hk, X, rfl, hX, hm, hbel, hsz⟩ := hrel
    have he := all_done l k (by rw [HN.out]; exact hk)
    rw [HN.out, ← hX.out] at he
    have hlist : X.toList = X.data.toList := ByteArray.toList_eq X
    by_cases hkt : k = n
    · have he1 : X.toList.isEmpty = true := by rw [hlist, he]; simpa using hkt
      have he2 : (!X.toList.isEmpty) = false := by rw [he1]; rfl
      obtain ⟨t, ht⟩ : ∃ t, blocksW (padded l) k = t := ⟨_, rfl⟩
      rw [ht] at hm
      have HOK : Hid t.ok := by rw [← ht]; exact blocksW_ok _ _
      have HT : Hid (sha l = outW t 8) := by show _ = _; rw [← ht, hkt, ← HN.out]; rfl
      have m0 := (hm 0 (by rw [Wds.length_list]; decide)).1
      have m1 := (hm 1 (by rw [Wds.length_list]; decide)).1
      have m2 := (hm 2 (by rw [Wds.length_list]; decide)).1
      have m3 := (hm 3 (by rw [Wds.length_list]; decide)).1
      have m4 := (hm 4 (by rw [Wds.length_list]; decide)).1
      have m5 := (hm 5 (by rw [Wds.length_list]; decide)).1
      have m6 := (hm 6 (by rw [Wds.length_list]; decide)).1
      have m7 := (hm 7 (by rw [Wds.length_list]; decide)).1
      simp only [Wds.list, List.getD_cons_zero, List.getD_cons_succ, Nat.zero_add] at m0 m1 m2 m3 m4 m5 m6 m7
      clear he hlist hkt ht hm hX hw3 hb5 hs3
      go_wp2
      go_loopw [6, 33] (fun o i wx => ∃ k : Nat, k ≤ 8 ∧ i = .int .i64 k ∧ ∃ O : ByteArray, o = .string O ∧ O.data.toList = outW t k ∧ Below w.heap.size w wx) (fun _ i _ => 8 - (intOf i).toNat)
      case atStart => exact ⟨0, Nat.zero_le _, rfl, ⟨#[]⟩, rfl, rfl, hbel⟩
      case round =>
        obtain ⟨k, hk, rfl, O, rfl, hO, hbx⟩ := hrel
        by_cases hk8 : k < 8
        · have hx := idx8 t k hk8 wr
          have hlt := list_lt HOK.out k
          have hsucc := outW_succ t k hk8
          have hos : O.size ≤ 1000 := by
            rw [Lib.size_eq, hO]
            rcases (show k = 0 ∨ k = 1 ∨ k = 2 ∨ k = 3 ∨ k = 4 ∨ k = 5 ∨ k = 6 ∨ k = 7 by omega) with rfl | rfl | rfl | rfl | rfl | rfl | rfl | rfl <;> simp [outW, Wds.list, length_bigL]
          generalize t.list.getD k 0 = y at *
          have hy : IntKind.i64.wrap (y : Int) = (y : Int) := by rw [IntKind.wrap_i64]; omega
          have HO := Lib.hid hO
          have HSU := Lib.hid hsucc
          clear hO hsucc
          go_wp2_with fail
          refine (bigBytes_any y 4 _ (by omega) (by decide)).mono ?_
          rintro e W3 ⟨rfl, hb4⟩
          obtain ⟨G, hG⟩ : ∃ G : ByteArray, (⟨(bigL y 4).toArray⟩ : ByteArray) = G := ⟨_, rfl⟩
          rw [hG]
          have gs : G.size = 4 := by rw [← hG, Lib.size_eq]; exact length_bigL _ _
          have HG := Lib.hid hG
          have hby : Below w.heap.size w W3 := hbx.trans (hb4.mono hbx.size)
          clear hG hb4 hx
          go_wp2
          go_roundw
          case rel => exact ⟨k + 1, by omega, by go_num, O ++ G, rfl, by rw [HSU.out, ← HG.out, ← HO.out]; simp [ByteArray.data_append], hby⟩
          case measure => simp [intOf]; omega
        · obtain rfl : k = 8 := by omega
          have HE : Hid (O = ⟨(sha l).toArray⟩) := by
            show _ = _
            rw [HT.out, ← hO]
          clear hO
          go_wp2
          go_ret
          refine ⟨?_, hbx⟩
          rw [HE.out, HL.out]; rfl
    · have he1 : X.toList.isEmpty = false := by rw [hlist, he]; simpa using hkt
      have he2 : (!X.toList.isEmpty) = true := by rw [he1]; rfl
      have h64 : 64 ≤ X.size := by rw [Lib.size_eq, hX.out]; exact block_size l k (by rw [HN.out]; omega)
      clear he hlist hw3 hb5 hs3
      go_wp2_with fail
      refine (hashBlock_any w.heap.size w.heap.size (blocksW (padded l) k) (X.extract 0 64) wr (blocksW_ok _ _) (by simp; omega) hm (Nat.le_refl _) (Nat.le_of_lt hsz) hsz (fun i hi => by rw [cell_congr (hbel.block _ HG1.out)]; exact HR.out i hi) HG1.out).mono ?_
      rintro e W4 ⟨rfl, hm4, hb4⟩
      have hx4 : (X.extract 0 64).data.toList = ((padded l).drop (64 * k)).take 64 := by rw [← hX.out]; simp [ByteArray.data_extract]
      rw [hx4] at hm4
      have hm5 : Wd W4 w.heap.size 0 (blocksW (padded l) (k + 1)).list := hm4
      have hb5 : Below w.heap.size w W4 := hbel.trans hb4
      have hs5 : w.heap.size < W4.heap.size := Nat.lt_of_lt_of_le hsz hb4.size
      have hX5 : Hid ((X.extract 64 X.size).data.toList = (padded l).drop (64 * (k + 1))) := by
        show _ = _
        rw [Nat.mul_succ, ← List.drop_drop, ← hX.out, Lib.extract_data]
        exact List.take_of_length_le (by rw [List.length_drop, ← Lib.size_eq]; exact Nat.le_refl _)
      clear hm hbel hsz hm4 hb4 hx4
      go_wp2
      go_roundw
      case rel => exact ⟨k + 1, by omega, X.extract 64 X.size, rfl, hX5, hm5, hb5, hs5⟩
      case measure => simp [szOf]; omega
end Go.Proofs.YtfkpdinfoagfhaaDoor
