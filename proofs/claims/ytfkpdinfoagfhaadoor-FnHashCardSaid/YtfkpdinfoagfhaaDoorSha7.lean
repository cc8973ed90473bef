/-
  HMAC in plain words and the contract of the reference's l02Hmac. Conditions: the key and the message are no longer than a billion bytes.
-/
import Derived.Test.YtfkpdinfoagfhaaDoorSha6
import Derived.Lib.AppendStr
import Derived.OneCell
namespace Go.Proofs.YtfkpdinfoagfhaaDoor
open Go.ChangeShapes Go.WideShapes Go.ChangeAt Go.RowKit
set_option linter.unusedVariables false
set_option linter.unusedSimpArgs false
set_option maxRecDepth 100000

def hmacKey (k : List UInt8) : List UInt8 := if 64 < k.length then sha k else k
theorem hmacKey_le (k : List UInt8) : (hmacKey k).length ≤ 64 := by
  unfold hmacKey; split
  · rw [length_sha]; omega
  · omega
def padX (k : List UInt8) (m : UInt8) (n : Nat) : List UInt8 := (List.range n).map fun i => k.getD i 0 ^^^ m
theorem length_padX (k : List UInt8) (m : UInt8) (n : Nat) : (padX k m n).length = n := by simp [padX]
theorem padX_succ (k : List UInt8) (m : UInt8) (n : Nat) : padX k m (n + 1) = padX k m n ++ [k.getD n 0 ^^^ m] := by simp [padX, List.range_succ]
def hmacL (key msg : List UInt8) : List UInt8 := sha (padX (hmacKey key) 92 64 ++ sha (padX (hmacKey key) 54 64 ++ msg))
/-- the cells while they are filled -/
def padC (k : List UInt8) (m : UInt8) (j : Nat) : List Value := u8s (padX k m j) ++ List.replicate (64 - j) (.int .u8 0)
theorem padC_set (k : List UInt8) (m : UInt8) {j : Nat} (hj : j < 64) : (padC k m j).set j (.int .u8 ((k.getD j 0 ^^^ m).toNat : Int)) = padC k m (j + 1) := by
  unfold padC
  rw [List.set_append_right _ _ (by rw [length_u8s, length_padX]; exact Nat.le_refl _), length_u8s, length_padX, Nat.sub_self, show 64 - j = (64 - (j + 1)) + 1 from by omega, List.replicate_succ, List.set_cons_zero, padX_succ, u8s_append, List.append_assoc]; rfl
theorem padC_all (k : List UInt8) (m : UInt8) : padC k m 64 = u8s (padX k m 64) := by simp [padC]
theorem u8_xor (a b : UInt8) : bits .xor .u8 (a.toNat : Int) (b.toNat : Int) = ((a ^^^ b).toNat : Int) := by
  rw [u8_xor_nat _ _ a.toNat_lt b.toNat_lt]; rfl
theorem own_set {w : World} {base : Nat} {e : TypeId} {g n cap : Nat} {xs : List Value} (h : w.ownsRow base e 1 (.slice (some ⟨g, 0, none⟩) n cap) n xs) {k : Nat} (hk : k < n) (v : Value) :
    (w.setCell ⟨g, k, none⟩ v).ownsRow base e 1 (.slice (some ⟨g, 0, none⟩) n cap) n (xs.set k v) := by
  obtain ⟨hl, h | ⟨g', cap', cur, he, hb, hh, hn, hm, hs, ht⟩⟩ := h
  · cases h.1
  · simp only [Value.slice.injEq, Option.some.injEq, Addr.mk.injEq, and_true, true_and] at he
    obtain ⟨rfl, rfl⟩ := he
    refine ⟨by simpa using hl, .inr ⟨g, cap, cur.setIfInBounds k v, rfl, hb, by simp [World.setCell, Array.getElem?_modify, hh], hn, hm, by simpa using hs, ?_⟩⟩
    rw [← ht, Array.toList_setIfInBounds, List.take_set]
theorem own_cell {w : World} {base : Nat} {e : TypeId} {g n cap : Nat} {xs : List Value} (h : w.ownsRow base e 1 (.slice (some ⟨g, 0, none⟩) n cap) n xs) {k : Nat} (hk : k < n) :
    (∃ v, w.cell? ⟨g, k, none⟩ = some v) ∧ w.frozen? ⟨g, k, none⟩ = false := by
  have hl : xs.length = n := by have := h.1; omega
  obtain ⟨b, off, he, _, hc⟩ := (own_at h).get (by intro e; subst e; simp at hl; omega)
  simp only [Option.some.injEq, Addr.mk.injEq, and_true] at he
  obtain ⟨rfl, rfl⟩ := he
  obtain ⟨h1, h2⟩ := hc k (by omega)
  rw [Nat.zero_add] at h1 h2
  exact ⟨⟨_, h1⟩, h2⟩
theorem str_cells (s : ByteArray) : Lib.strCells s = u8s s.data.toList := by
  unfold Lib.strCells u8s
  rfl
theorem own_two {w : World} {base : Nat} {e : TypeId} {g n cap g2 : Nat} {xs : List Value} (h : w.ownsRow base e 1 (.slice (some ⟨g, 0, none⟩) n cap) n xs) (hne : g ≠ g2) (k : Nat) (v : Value) : (w.setCell ⟨g2, k, none⟩ v).ownsRow base e 1 (.slice (some ⟨g, 0, none⟩) n cap) n xs :=
  ownsRow_setCell_other h (by simp [Value.ownBlock]; omega) v

theorem xor_zero_facts : bits .xor .u8 0 54 = 54 ∧ bits .xor .u8 0 92 = 92 := by decide +kernel
set_option maxHeartbeats 4000000 in
theorem l02Hmac_aux (key msg : ByteArray) (w0 w : World) (hk : key.size ≤ 900000000) (hm : msg.size ≤ 900000000) (hb0 : Below w0.heap.size w0 w) :
    Calls Tryd.prog 30 #[.string key, .string msg] w fun e w' => e = .returned (.string ⟨(hmacL key.data.toList msg.data.toList).toArray⟩) ∧ Below w0.heap.size w0 w' := by
  obtain ⟨i0, hi, hz0, hz1, hz2⟩ := info_parts Tryd.info_i8
  obtain ⟨cp, ob, hcv, HMINE⟩ := bytes_conv (P := Tryd.prog) 9 22 5 key key.size rfl Tryd.underlying9 Tryd.underlying22 Tryd.underlying5
  by_cases hbig : 64 < key.size
  · go_enter Tryd.func30, Tryd.ntmps30
    go_wp2_with fail
    refine (l01Hash_any (some ⟨w.heap.size, 0, none⟩) key.size (cp w) key.data.toList (w.alloc (ob w)).drew (size_list key) ((HMINE.out w w.heap.size (Nat.le_refl _)).at) (by omega)).mono ?_
    rintro e W ⟨rfl, hbw⟩
    obtain ⟨K, hK⟩ : ∃ K : ByteArray, (⟨(sha key.data.toList).toArray⟩ : ByteArray) = K := ⟨_, rfl⟩
    have hks : K.size ≤ 64 := by rw [← hK, Lib.size_eq]; show (sha _).length ≤ 64; rw [length_sha]; omega
    have HK : Hid (K.data.toList = hmacKey key.data.toList) := by
      show _ = _
      rw [← hK, hmacKey, if_pos (by rw [size_list]; exact hbig)]
    have HB : Below w0.heap.size w0 W := (hb0.alloc hb0.size (ob w)).drew.trans (hbw.mono (by show w0.heap.size ≤ (w.alloc (ob w)).heap.size; have := hb0.size; simp; omega))
    rw [hK]
    clear hK hbw hb0 hcv HMINE hbig hk
    have tok : Hid True := trivial
    go_wp2_with (first
      | (at_make; clear tok; (refine wpList_make_full _ rfl _ _ 22 rfl w0.heap.size 5 i0 (.int .u8 0) 1 Tryd.underlying22 hi hz0 hz1 .i64 .i64 _ _ 64 rfl rfl rfl rfl (by rw [hz2]; omega) (by unfold maxLen; omega) HB.size ?_; intro w1 hown1 hgrow1))
      | (at_make; (refine wpList_make_full _ rfl _ _ 22 rfl w0.heap.size 5 i0 (.int .u8 0) 1 Tryd.underlying22 hi hz0 hz1 .i64 .i64 _ _ 64 rfl rfl rfl rfl (by rw [hz2]; omega) (by unfold maxLen; omega) (Nat.le_trans HB.size hgrow1.size) ?_; intro w2 hown2 hgrow2)))
    have hmd : ∀ m : UInt8, (madeCells (Value.cells (.int .u8 0)) (64 * 1)).toList = padC K.data.toList m 0 := fun m => by
      rw [Nat.mul_one]; exact made_one _ 64
    have g1l : W.heap.size < w1.heap.size := (hown1.lt W.heap.size rfl).2
    have HO1 : Hid (w2.ownsRow w0.heap.size 5 1 (.slice (some ⟨W.heap.size, 0, none⟩) 64 64) 64 (padC K.data.toList 54 0)) := by
      rw [← hmd 54]; exact hown1.kept hgrow2 (Or.inr (by simp [Value.ownBlock]))
    have HO2 : Hid (w2.ownsRow w0.heap.size 5 1 (.slice (some ⟨w1.heap.size, 0, none⟩) 64 64) 64 (padC K.data.toList 92 0)) := by
      rw [← hmd 92]; exact hown2
    have HB2 : Below w0.heap.size w0 w2 := (HB.grown hgrow1 HB.size (fun _ h => by cases h)).grown hgrow2 (Nat.le_trans HB.size hgrow1.size) (fun _ h => by cases h)
    obtain ⟨g1, hg1⟩ : ∃ g, W.heap.size = g := ⟨_, rfl⟩
    obtain ⟨g2, hg2⟩ : ∃ g, w1.heap.size = g := ⟨_, rfl⟩
    have hb1 : w0.heap.size ≤ g1 := by rw [← hg1]; exact HB.size
    rw [hg1] at HO1 g1l ⊢
    rw [hg2] at HO2 g1l ⊢
    have hne : Hid (g1 ≠ g2) := by show _ ≠ _; omega
    clear hown1 hown2 hgrow1 hgrow2 hmd HB hg1 hg2
    go_wp2
    go_loopw [7] (fun i wr => ∃ j : Nat, j ≤ 64 ∧ i = .int .i64 j ∧ Hid (wr.ownsRow w0.heap.size 5 1 (.slice (some ⟨g1, 0, none⟩) 64 64) 64 (padC K.data.toList 54 j)) ∧ Hid (wr.ownsRow w0.heap.size 5 1 (.slice (some ⟨g2, 0, none⟩) 64 64) 64 (padC K.data.toList 92 j)) ∧ Below w0.heap.size w0 wr) (fun i _ => 64 - (intOf i).toNat)
    case atStart => exact ⟨0, Nat.zero_le _, rfl, HO1, HO2, HB2⟩
    case round =>
      clear HO1 HO2 HB2
      obtain ⟨j, hj, rfl, HO1, HO2, HBr⟩ := hrel
      by_cases hj64 : j < 64
      · obtain ⟨⟨q1, c1⟩, f1⟩ := own_cell HO1.out hj64
        obtain ⟨⟨q2, c2⟩, f2⟩ := own_cell HO2.out hj64
        have LK : (j : Int) < 64 := by omega
        have STEP : ∀ x : UInt8, K.data.toList.getD j 0 = x → Hid (((wr.setCell ⟨g1, j, none⟩ (.int .u8 ((x ^^^ 54).toNat : Int))).setCell ⟨g2, j, none⟩ (.int .u8 ((x ^^^ 92).toNat : Int))).ownsRow w0.heap.size 5 1 (.slice (some ⟨g1, 0, none⟩) 64 64) 64 (padC K.data.toList 54 (j + 1))) ∧ Hid (((wr.setCell ⟨g1, j, none⟩ (.int .u8 ((x ^^^ 54).toNat : Int))).setCell ⟨g2, j, none⟩ (.int .u8 ((x ^^^ 92).toNat : Int))).ownsRow w0.heap.size 5 1 (.slice (some ⟨g2, 0, none⟩) 64 64) 64 (padC K.data.toList 92 (j + 1))) ∧ Hid (Below w0.heap.size w0 ((wr.setCell ⟨g1, j, none⟩ (.int .u8 ((x ^^^ 54).toNat : Int))).setCell ⟨g2, j, none⟩ (.int .u8 ((x ^^^ 92).toNat : Int)))) ∧ (wr.setCell ⟨g1, j, none⟩ (.int .u8 ((x ^^^ 54).toNat : Int))).cell? ⟨g2, j, none⟩ = some q2 := by
          rintro x rfl
          have a1 := own_set HO1.out hj64 (.int .u8 ((K.data.toList.getD j 0 ^^^ 54).toNat : Int))
          rw [padC_set _ _ hj64] at a1
          have a2 := own_set (own_two HO2.out hne.out.symm j (.int .u8 ((K.data.toList.getD j 0 ^^^ 54).toNat : Int))) hj64 (.int .u8 ((K.data.toList.getD j 0 ^^^ 92).toNat : Int))
          rw [padC_set _ _ hj64] at a2
          refine ⟨own_two a1 hne.out j _, a2, (HBr.setCell (p := ⟨g1, j, none⟩) hb1 _).setCell (p := ⟨g2, j, none⟩) (Nat.le_trans hb1 (Nat.le_of_lt g1l)) _, ?_⟩
          rw [World.cell?_setCell_other _ _ _ _ (by intro e; injection e with e; exact hne.out e)]
          exact c2
        by_cases hjk : j < K.size
        · obtain ⟨S1, S2, S3, c3⟩ := STEP K[j] (bytes_get K hjk)
          have x1 : bits .xor .u8 (K[j].toNat : Int) 54 = ((K[j] ^^^ 54).toNat : Int) := u8_xor K[j] 54
          have x2 : bits .xor .u8 (K[j].toNat : Int) 92 = ((K[j] ^^^ 92).toNat : Int) := u8_xor K[j] 92
          clear STEP
          go_wp2
          go_roundw
          case rel => exact ⟨j + 1, by omega, by go_num, S1, S2, S3.out⟩
          case measure => simp [intOf]; omega
        · obtain ⟨S1, S2, S3, c3⟩ := STEP 0 (by rw [List.getD_eq_getElem?_getD, List.getElem?_eq_none (by rw [size_list]; omega)]; rfl)
          have x1 : bits .xor .u8 0 54 = 54 := xor_zero_facts.1
          have x2 : bits .xor .u8 0 92 = 92 := xor_zero_facts.2
          rw [show (((0 : UInt8) ^^^ 54).toNat : Int) = 54 from rfl] at S1 S2 S3 c3
          rw [show (((0 : UInt8) ^^^ 92).toNat : Int) = 92 from rfl] at S1 S2 S3
          clear STEP
          go_wp2
          go_roundw
          case rel => exact ⟨j + 1, by omega, by go_num, S1, S2, S3.out⟩
          case measure => simp [intOf]; omega
      · have hj64e : j = 64 := by omega
        rw [hj64e, padC_all] at HO1 HO2
        clear hj64e hj
        have tok : Hid True := trivial
        have HFIN : Hid (hmacL key.data.toList msg.data.toList = sha (padX K.data.toList 92 64 ++ sha (padX K.data.toList 54 64 ++ msg.data.toList))) := by
          show _ = _
          rw [hmacL, ← HK.out]
        go_wp2_with (at_builtin; clear tok; (refine Lib.wpList_append_own_string _ rfl (.tmp 39) (.tmp 40) 22 9 rfl w0.heap.size 5 i0 Tryd.underlying22 Tryd.underlying9 hi hz0 hz1 hz2 (.slice (some ⟨g1, 0, none⟩) 64 64) 64 _ rfl HO1.out msg rfl (by unfold maxLen; omega) (by omega) HBr.size ?_; intro v3 w3 hown3 hgrow3 hn3))
        obtain ⟨a3, c3, rfl, hm3⟩ := mine_of_owns hown3
        have HB3 : Below w0.heap.size w0 w3 := HBr.grown hgrow3 HBr.size (fun k h => (HO1.out.lt k h).1)
        have HO3 : Hid (w3.ownsRow w0.heap.size 5 1 (.slice (some ⟨g2, 0, none⟩) 64 64) 64 (u8s (padX K.data.toList 92 64))) := HO2.out.kept hgrow3 (Or.inr (by simp [Value.ownBlock]; exact fun e => hne.out e.symm))
        rw [str_cells, ← u8s_append] at hm3
        clear hown3 hgrow3 hn3 HO1 HO2 HBr
        go_wp2_with fail
        refine (l01Hash_any a3 (64 + msg.size) c3 (padX K.data.toList 54 64 ++ msg.data.toList) w3 (by rw [List.length_append, length_padX, size_list]) hm3.at (by omega)).mono ?_
        rintro e w4 ⟨rfl, hb4⟩
        have HB4 : Below w0.heap.size w0 w4 := HB3.trans (hb4.mono HB3.size)
        have HO4 : Hid (w4.ownsRow w0.heap.size 5 1 (.slice (some ⟨g2, 0, none⟩) 64 64) 64 (u8s (padX K.data.toList 92 64))) := HO3.out.kept (grownBy_of_below none hb4) (Or.inr (by simp [Value.ownBlock]))
        obtain ⟨S, hS⟩ : ∃ S : ByteArray, (⟨(sha (padX K.data.toList 54 64 ++ msg.data.toList)).toArray⟩ : ByteArray) = S := ⟨_, rfl⟩
        have HS : Hid (S.data.toList = sha (padX K.data.toList 54 64 ++ msg.data.toList)) := by show _ = _; rw [← hS]
        have hSs : S.size = 32 := by rw [← size_list, HS.out, length_sha]
        rw [hS]
        clear hS hb4 hm3 HO3 HB3
        have tok : Hid True := trivial
        have HSZ : Hid (S.size = 32) := hSs
        have hSl : S.size ≤ 32 := by omega
        clear hSs
        go_wp2_with (at_builtin; clear tok; (refine Lib.wpList_append_own_string _ rfl (.tmp 38) (.tmp 42) 22 9 rfl w0.heap.size 5 i0 Tryd.underlying22 Tryd.underlying9 hi hz0 hz1 hz2 (.slice (some ⟨g2, 0, none⟩) 64 64) 64 _ rfl HO4.out S rfl (by unfold maxLen; omega) (by omega) HB4.size ?_; intro v5 w5 hown5 hgrow5 hn5))
        obtain ⟨a5, c5, rfl, hm5⟩ := mine_of_owns hown5
        have HB5 : Below w0.heap.size w0 w5 := HB4.grown hgrow5 HB4.size (fun k h => (HO4.out.lt k h).1)
        rw [str_cells, ← u8s_append, HS.out] at hm5
        clear hown5 hgrow5 hn5 HO4 HB4
        go_wp2_with fail
        refine (l01Hash_any a5 (64 + S.size) c5 (padX K.data.toList 92 64 ++ sha (padX K.data.toList 54 64 ++ msg.data.toList)) w5 (by rw [List.length_append, length_padX, length_sha, HSZ.out]) hm5.at (by omega)).mono ?_
        rintro e w6 ⟨rfl, hb6⟩
        have HB6 : Below w0.heap.size w0 w6 := HB5.trans (hb6.mono HB5.size)
        rw [← HFIN.out]
        go_wp2
        go_ret
        exact ⟨rfl, HB6⟩
  · have HK : Hid (key.data.toList = hmacKey key.data.toList) := by
      show _ = _
      rw [hmacKey, if_neg (by rw [size_list]; exact hbig)]
    have hks : key.size ≤ 64 := by omega
    clear hcv HMINE hbig hk
    obtain ⟨W, rfl⟩ : ∃ W : World, W = w := ⟨_, rfl⟩
    have HB := hb0
    clear hb0
    have hkn : ¬ (64 < (key.size : Int)) := by omega
    have tok : Hid True := trivial
    go_enter Tryd.func30, Tryd.ntmps30
    go_wp2_with (first
      | (at_make; clear tok; (refine wpList_make_full _ rfl _ _ 22 rfl w0.heap.size 5 i0 (.int .u8 0) 1 Tryd.underlying22 hi hz0 hz1 .i64 .i64 _ _ 64 rfl rfl rfl rfl (by rw [hz2]; omega) (by unfold maxLen; omega) HB.size ?_; intro w1 hown1 hgrow1))
      | (at_make; (refine wpList_make_full _ rfl _ _ 22 rfl w0.heap.size 5 i0 (.int .u8 0) 1 Tryd.underlying22 hi hz0 hz1 .i64 .i64 _ _ 64 rfl rfl rfl rfl (by rw [hz2]; omega) (by unfold maxLen; omega) (Nat.le_trans HB.size hgrow1.size) ?_; intro w2 hown2 hgrow2)))
    have hmd : ∀ m : UInt8, (madeCells (Value.cells (.int .u8 0)) (64 * 1)).toList = padC key.data.toList m 0 := fun m => by
      rw [Nat.mul_one]; exact made_one _ 64
    have g1l : W.heap.size < w1.heap.size := (hown1.lt W.heap.size rfl).2
    have HO1 : Hid (w2.ownsRow w0.heap.size 5 1 (.slice (some ⟨W.heap.size, 0, none⟩) 64 64) 64 (padC key.data.toList 54 0)) := by
      rw [← hmd 54]; exact hown1.kept hgrow2 (Or.inr (by simp [Value.ownBlock]))
    have HO2 : Hid (w2.ownsRow w0.heap.size 5 1 (.slice (some ⟨w1.heap.size, 0, none⟩) 64 64) 64 (padC key.data.toList 92 0)) := by
      rw [← hmd 92]; exact hown2
    have HB2 : Below w0.heap.size w0 w2 := (HB.grown hgrow1 HB.size (fun _ h => by cases h)).grown hgrow2 (Nat.le_trans HB.size hgrow1.size) (fun _ h => by cases h)
    obtain ⟨g1, hg1⟩ : ∃ g, W.heap.size = g := ⟨_, rfl⟩
    obtain ⟨g2, hg2⟩ : ∃ g, w1.heap.size = g := ⟨_, rfl⟩
    have hb1 : w0.heap.size ≤ g1 := by rw [← hg1]; exact HB.size
    rw [hg1] at HO1 g1l ⊢
    rw [hg2] at HO2 g1l ⊢
    have hne : Hid (g1 ≠ g2) := by show _ ≠ _; omega
    clear hown1 hown2 hgrow1 hgrow2 hmd HB hg1 hg2
    go_wp2
    go_loopw [7] (fun i wr => ∃ j : Nat, j ≤ 64 ∧ i = .int .i64 j ∧ Hid (wr.ownsRow w0.heap.size 5 1 (.slice (some ⟨g1, 0, none⟩) 64 64) 64 (padC key.data.toList 54 j)) ∧ Hid (wr.ownsRow w0.heap.size 5 1 (.slice (some ⟨g2, 0, none⟩) 64 64) 64 (padC key.data.toList 92 j)) ∧ Below w0.heap.size w0 wr) (fun i _ => 64 - (intOf i).toNat)
    case atStart => exact ⟨0, Nat.zero_le _, rfl, HO1, HO2, HB2⟩
    case round =>
      clear HO1 HO2 HB2
      obtain ⟨j, hj, rfl, HO1, HO2, HBr⟩ := hrel
      by_cases hj64 : j < 64
      · obtain ⟨⟨q1, c1⟩, f1⟩ := own_cell HO1.out hj64
        obtain ⟨⟨q2, c2⟩, f2⟩ := own_cell HO2.out hj64
        have LK : (j : Int) < 64 := by omega
        have STEP : ∀ x : UInt8, key.data.toList.getD j 0 = x → Hid (((wr.setCell ⟨g1, j, none⟩ (.int .u8 ((x ^^^ 54).toNat : Int))).setCell ⟨g2, j, none⟩ (.int .u8 ((x ^^^ 92).toNat : Int))).ownsRow w0.heap.size 5 1 (.slice (some ⟨g1, 0, none⟩) 64 64) 64 (padC key.data.toList 54 (j + 1))) ∧ Hid (((wr.setCell ⟨g1, j, none⟩ (.int .u8 ((x ^^^ 54).toNat : Int))).setCell ⟨g2, j, none⟩ (.int .u8 ((x ^^^ 92).toNat : Int))).ownsRow w0.heap.size 5 1 (.slice (some ⟨g2, 0, none⟩) 64 64) 64 (padC key.data.toList 92 (j + 1))) ∧ Hid (Below w0.heap.size w0 ((wr.setCell ⟨g1, j, none⟩ (.int .u8 ((x ^^^ 54).toNat : Int))).setCell ⟨g2, j, none⟩ (.int .u8 ((x ^^^ 92).toNat : Int)))) ∧ (wr.setCell ⟨g1, j, none⟩ (.int .u8 ((x ^^^ 54).toNat : Int))).cell? ⟨g2, j, none⟩ = some q2 := by
          rintro x rfl
          have a1 := own_set HO1.out hj64 (.int .u8 ((key.data.toList.getD j 0 ^^^ 54).toNat : Int))
          rw [padC_set _ _ hj64] at a1
          have a2 := own_set (own_two HO2.out hne.out.symm j (.int .u8 ((key.data.toList.getD j 0 ^^^ 54).toNat : Int))) hj64 (.int .u8 ((key.data.toList.getD j 0 ^^^ 92).toNat : Int))
          rw [padC_set _ _ hj64] at a2
          refine ⟨own_two a1 hne.out j _, a2, (HBr.setCell (p := ⟨g1, j, none⟩) hb1 _).setCell (p := ⟨g2, j, none⟩) (Nat.le_trans hb1 (Nat.le_of_lt g1l)) _, ?_⟩
          rw [World.cell?_setCell_other _ _ _ _ (by intro e; injection e with e; exact hne.out e)]
          exact c2
        by_cases hjk : j < key.size
        · obtain ⟨S1, S2, S3, c3⟩ := STEP key[j] (bytes_get key hjk)
          have x1 : bits .xor .u8 (key[j].toNat : Int) 54 = ((key[j] ^^^ 54).toNat : Int) := u8_xor key[j] 54
          have x2 : bits .xor .u8 (key[j].toNat : Int) 92 = ((key[j] ^^^ 92).toNat : Int) := u8_xor key[j] 92
          clear STEP
          go_wp2
          go_roundw
          case rel => exact ⟨j + 1, by omega, by go_num, S1, S2, S3.out⟩
          case measure => simp [intOf]; omega
        · obtain ⟨S1, S2, S3, c3⟩ := STEP 0 (by rw [List.getD_eq_getElem?_getD, List.getElem?_eq_none (by rw [size_list]; omega)]; rfl)
          have x1 : bits .xor .u8 0 54 = 54 := xor_zero_facts.1
          have x2 : bits .xor .u8 0 92 = 92 := xor_zero_facts.2
          rw [show (((0 : UInt8) ^^^ 54).toNat : Int) = 54 from rfl] at S1 S2 S3 c3
          rw [show (((0 : UInt8) ^^^ 92).toNat : Int) = 92 from rfl] at S1 S2 S3
          clear STEP
          go_wp2
          go_roundw
          case rel => exact ⟨j + 1, by omega, by go_num, S1, S2, S3.out⟩
          case measure => simp [intOf]; omega
      · have hj64e : j = 64 := by omega
        rw [hj64e, padC_all] at HO1 HO2
        clear hj64e hj
        have tok : Hid True := trivial
        have HFIN : Hid (hmacL key.data.toList msg.data.toList = sha (padX key.data.toList 92 64 ++ sha (padX key.data.toList 54 64 ++ msg.data.toList))) := by
          show _ = _
          rw [hmacL, ← HK.out]
        go_wp2_with (at_builtin; clear tok; (refine Lib.wpList_append_own_string _ rfl (.tmp 39) (.tmp 40) 22 9 rfl w0.heap.size 5 i0 Tryd.underlying22 Tryd.underlying9 hi hz0 hz1 hz2 (.slice (some ⟨g1, 0, none⟩) 64 64) 64 _ rfl HO1.out msg rfl (by unfold maxLen; omega) (by omega) HBr.size ?_; intro v3 w3 hown3 hgrow3 hn3))
        obtain ⟨a3, c3, rfl, hm3⟩ := mine_of_owns hown3
        have HB3 : Below w0.heap.size w0 w3 := HBr.grown hgrow3 HBr.size (fun k h => (HO1.out.lt k h).1)
        have HO3 : Hid (w3.ownsRow w0.heap.size 5 1 (.slice (some ⟨g2, 0, none⟩) 64 64) 64 (u8s (padX key.data.toList 92 64))) := HO2.out.kept hgrow3 (Or.inr (by simp [Value.ownBlock]; exact fun e => hne.out e.symm))
        rw [str_cells, ← u8s_append] at hm3
        clear hown3 hgrow3 hn3 HO1 HO2 HBr
        go_wp2_with fail
        refine (l01Hash_any a3 (64 + msg.size) c3 (padX key.data.toList 54 64 ++ msg.data.toList) w3 (by rw [List.length_append, length_padX, size_list]) hm3.at (by omega)).mono ?_
        rintro e w4 ⟨rfl, hb4⟩
        have HB4 : Below w0.heap.size w0 w4 := HB3.trans (hb4.mono HB3.size)
        have HO4 : Hid (w4.ownsRow w0.heap.size 5 1 (.slice (some ⟨g2, 0, none⟩) 64 64) 64 (u8s (padX key.data.toList 92 64))) := HO3.out.kept (grownBy_of_below none hb4) (Or.inr (by simp [Value.ownBlock]))
        obtain ⟨S, hS⟩ : ∃ S : ByteArray, (⟨(sha (padX key.data.toList 54 64 ++ msg.data.toList)).toArray⟩ : ByteArray) = S := ⟨_, rfl⟩
        have HS : Hid (S.data.toList = sha (padX key.data.toList 54 64 ++ msg.data.toList)) := by show _ = _; rw [← hS]
        have hSs : S.size = 32 := by rw [← size_list, HS.out, length_sha]
        rw [hS]
        clear hS hb4 hm3 HO3 HB3
        have tok : Hid True := trivial
        have HSZ : Hid (S.size = 32) := hSs
        have hSl : S.size ≤ 32 := by omega
        clear hSs
        go_wp2_with (at_builtin; clear tok; (refine Lib.wpList_append_own_string _ rfl (.tmp 38) (.tmp 42) 22 9 rfl w0.heap.size 5 i0 Tryd.underlying22 Tryd.underlying9 hi hz0 hz1 hz2 (.slice (some ⟨g2, 0, none⟩) 64 64) 64 _ rfl HO4.out S rfl (by unfold maxLen; omega) (by omega) HB4.size ?_; intro v5 w5 hown5 hgrow5 hn5))
        obtain ⟨a5, c5, rfl, hm5⟩ := mine_of_owns hown5
        have HB5 : Below w0.heap.size w0 w5 := HB4.grown hgrow5 HB4.size (fun k h => (HO4.out.lt k h).1)
        rw [str_cells, ← u8s_append, HS.out] at hm5
        clear hown5 hgrow5 hn5 HO4 HB4
        go_wp2_with fail
        refine (l01Hash_any a5 (64 + S.size) c5 (padX key.data.toList 92 64 ++ sha (padX key.data.toList 54 64 ++ msg.data.toList)) w5 (by rw [List.length_append, length_padX, length_sha, HSZ.out]) hm5.at (by omega)).mono ?_
        rintro e w6 ⟨rfl, hb6⟩
        have HB6 : Below w0.heap.size w0 w6 := HB5.trans (hb6.mono HB5.size)
        rw [← HFIN.out]
        go_wp2
        go_ret
        exact ⟨rfl, HB6⟩
theorem l02Hmac_any (key msg : ByteArray) (w : World) (hk : key.size ≤ 900000000) (hm : msg.size ≤ 900000000) :
    Calls Tryd.prog 30 #[.string key, .string msg] w fun e w' => e = .returned (.string ⟨(hmacL key.data.toList msg.data.toList).toArray⟩) ∧ Below w.heap.size w w' := l02Hmac_aux key msg w w hk hm (Below.refl _ _)
end Go.Proofs.YtfkpdinfoagfhaaDoor
