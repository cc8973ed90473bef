/-
  Contracts of ReadScreen of the given program and of its reference. Condition: a bound on the length.
-/
import Derived.Test.YtfabclhcceooaaaRs
import Derived.Test.YtfabclhcceooaaaRs3
import Derived.Test.YtfabclhcceooaaaNewScr2
namespace Go.Proofs.Ytfabclhcceooaaa
open Go.ChangeShapes Go.WideShapes Go.ChangeAt Go.RowKit
set_option linter.unusedVariables false
set_option linter.unusedSimpArgs false
set_option maxRecDepth 100000
attribute [local irreducible] wpList

def RdsIs (l : List UInt8) (q1 q2 q3 q4 q5 q6 q7 q8 q9 : Int) (qt : ByteArray) (n : Nat) (rc : List (Int × Int)) (lr : Nat) (rh : List ByteArray) (cd : Int) : Prop :=
  (65536 < l.length ∧ q1 = 0 ∧ q2 = 0 ∧ q3 = 0 ∧ q4 = 0 ∧ q5 = 0 ∧ q6 = 0 ∧ q7 = 0 ∧ q8 = 0 ∧ q9 = 0 ∧ qt = ⟨#[]⟩ ∧ n = 0 ∧ rc = [] ∧ lr = 0 ∧ rh = [] ∧ cd = 2) ∨
  (¬ 65536 < l.length ∧ rdI ⟨l.toArray⟩ = none ∧ q1 = 0 ∧ q2 = 0 ∧ q3 = 0 ∧ q4 = 0 ∧ q5 = 0 ∧ q6 = 0 ∧ q7 = 0 ∧ q8 = 0 ∧ q9 = 0 ∧ qt = ⟨#[]⟩ ∧ n = 0 ∧ rc = [] ∧ lr = 0 ∧ rh = [] ∧ cd = 3) ∨
  (¬ 65536 < l.length ∧ rdI ⟨l.toArray⟩ = some ⟨q1, q2, q3, q4, q5, q6, q7, q8, q9, qt, rc, rh⟩ ∧ rc.length = n ∧ rh.length = lr ∧ cd = 0)
theorem rdI_ok {t : ByteArray} {d : ScrD} (h : rdI t = some d) : d.ok = true := by
  rw [rdI] at h
  split at h
  · split at h
    · split at h
      · rw [Option.bind_eq_some_iff] at h
        obtain ⟨d', _, h2⟩ := h
        split at h2
        · rename_i h3
          cases h2
          exact h3.1
        · cases h2
      · cases h
    · cases h
  · cases h
theorem rds_total (l : List UInt8) : ∃ q1 q2 q3 q4 q5 q6 q7 q8 q9 qt n rc lr rh cd, RdsIs l q1 q2 q3 q4 q5 q6 q7 q8 q9 qt n rc lr rh cd ∧ rc.length = n ∧ n ≤ 240 ∧ rh.length = lr ∧ lr ≤ 6 := by
  by_cases hl : 65536 < l.length
  · exact ⟨_, _, _, _, _, _, _, _, _, _, _, _, _, _, _, .inl ⟨hl, rfl, rfl, rfl, rfl, rfl, rfl, rfl, rfl, rfl, rfl, rfl, rfl, rfl, rfl, rfl⟩, rfl, by omega, rfl, by omega⟩
  · cases hd : rdI ⟨l.toArray⟩ with
    | none => exact ⟨_, _, _, _, _, _, _, _, _, _, _, _, _, _, _, .inr (.inl ⟨hl, hd, rfl, rfl, rfl, rfl, rfl, rfl, rfl, rfl, rfl, rfl, rfl, rfl, rfl, rfl, rfl⟩), rfl, by omega, rfl, by omega⟩
    | some d =>
      obtain ⟨q1, q2, q3, q4, q5, q6, q7, q8, q9, qt, rc, rh⟩ := d
      have hok := rdI_ok hd
      unfold ScrD.ok at hok
      have hF : ScrFits q1 q2 q3 q4 q5 q6 q7 q8 q9 qt rc rh := scrB_fits q1 q2 q3 q4 q5 q6 q7 q8 q9 qt hok
      refine ⟨_, _, _, _, _, _, _, _, _, _, _, _, _, _, _, .inr (.inr ⟨hl, hd, rfl, rfl, rfl⟩), rfl, ?_, rfl, hF.hs1⟩
      have h1 := hF.cl
      have h2 := hF.w0
      have h3 := hF.w1
      have h4 := hF.h0
      have h5 := hF.h1
      obtain ⟨m, rfl⟩ := Int.eq_ofNat_of_zero_le (show 0 ≤ q1 by omega)
      obtain ⟨k, rfl⟩ := Int.eq_ofNat_of_zero_le (show 0 ≤ q2 by omega)
      rw [← Int.natCast_mul] at h1
      have h6 := Nat.mul_le_mul (show m ≤ 24 by omega) (show k ≤ 10 by omega)
      show rc.length ≤ 240
      omega
theorem mine_alloc {B : Nat} {W : World} {a : Option Addr} {xs : List Value} (h : Mine B W a xs) (o : Obj) : Mine B (W.alloc o) a xs := h.below ((Below.refl W.heap.size W).alloc (Nat.le_refl _) o) (Nat.le_refl _)

set_option maxHeartbeats 4000000 in
theorem specReadScreen_any (ao : Option Addr) (n0 c0 : Nat) (l : List UInt8) (q1 q2 q3 q4 q5 q6 q7 q8 q9 : Int) (qt : ByteArray) (n : Nat) (rc : List (Int × Int)) (lr : Nat) (rh : List ByteArray) (cd : Int) (w : World) (ha : At w ao (u8s l)) (hl : l.length = n0) (hn : n0 ≤ 16777216) (hR : RdsIs l q1 q2 q3 q4 q5 q6 q7 q8 q9 qt n rc lr rh cd) :
    Calls Try.prog 39 #[.slice ao n0 c0] w (ScrPost w q1 q2 q3 q4 q5 q6 q7 q8 q9 qt n rc lr rh cd) := by
  have hbw : Below w.heap.size w (w.alloc (.cells #[.int .i64 0, .int .i64 0, .int .i64 0, .int .i64 0, .int .i64 0, .int .i64 0, .int .i64 0, .int .i64 0, .int .i64 0, .string ⟨#[]⟩, .slice none 0 0, .slice none 0 0] 42)) := (Below.refl _ _).alloc (Nat.le_refl _) _
  have hcv := conv_at (P := Try.prog) 58 9 5 n0 c0 Try.underlying58 Try.underlying5 Try.underlying9 (ha.below hbw (Nat.le_refl _)) hl
  have hsz : (⟨l.toArray⟩ : ByteArray).size = n0 := by rw [← hl]; rfl
  have hal : (w.alloc (.cells #[.int .i64 0, .int .i64 0, .int .i64 0, .int .i64 0, .int .i64 0, .int .i64 0, .int .i64 0, .int .i64 0, .int .i64 0, .string ⟨#[]⟩, .slice none 0 0, .slice none 0 0] 42)).heap.size = w.heap.size + 1 := by simp
  have HRS : Hid (n0 ≤ 65536 → Calls Try.prog 74 #[.string ⟨l.toArray⟩] (w.alloc (.cells #[.int .i64 0, .int .i64 0, .int .i64 0, .int .i64 0, .int .i64 0, .int .i64 0, .int .i64 0, .int .i64 0, .int .i64 0, .string ⟨#[]⟩, .slice none 0 0, .slice none 0 0] 42)) (RsPost (w.alloc (.cells #[.int .i64 0, .int .i64 0, .int .i64 0, .int .i64 0, .int .i64 0, .int .i64 0, .int .i64 0, .int .i64 0, .int .i64 0, .string ⟨#[]⟩, .slice none 0 0, .slice none 0 0] 42)) (rdI ⟨l.toArray⟩))) := fun h => by rw [rd_same]; exact l04Read_any _ _ (by rw [hsz]; exact h)
  rcases hR with ⟨h1, rfl, rfl, rfl, rfl, rfl, rfl, rfl, rfl, rfl, rfl, rfl, rfl, rfl, rfl, rfl⟩ | ⟨h1, hN, rfl, rfl, rfl, rfl, rfl, rfl, rfl, rfl, rfl, rfl, rfl, rfl, rfl, rfl, rfl⟩ | ⟨h1, hN, hrc, hrh, rfl⟩
  · have h1' : 65536 < n0 := by rw [← hl]; exact h1
    clear hl hcv hsz h1 HRS
    go_enter Try.func39, Try.ntmps39
    go_wp2
    exact bodyPost_ret (v := .tuple #[.agg #[.int .i64 0, .int .i64 0, .int .i64 0, .int .i64 0, .int .i64 0, .int .i64 0, .int .i64 0, .int .i64 0, .int .i64 0, .string ⟨#[]⟩, .slice none 0 0, .slice none 0 0], .int .i64 2]) (by simp [results, Try.results39, go_sem]) rfl ⟨none, 0, none, 0, rfl, Nat.zero_le _, .inl rfl, .inl rfl, .inl rfl, hbw⟩
  ·
    have h1' : n0 ≤ 65536 := by rw [← hl]; omega
    have HR := Lib.hid (HRS.out h1')
    rw [hN] at HR
    clear hl hsz h1 HRS hN
    go_enter Try.func39, Try.ntmps39
    go_wp2_with fail
    refine HR.out.mono ?_
    rintro e w1 ⟨wd, ht, x, y, lk, tp, bt, sx, sy, ti, aC, nC, cC, aH, nH, cH, rfl, hx, hb1⟩
    have hz1 : w.heap.size + 1 ≤ w1.heap.size := by have := hb1.size; omega
    have B1 : Below w.heap.size w w1 := hbw.trans (hb1.mono (by omega))
    have X1 : Hid (w1.heap[w.heap.size]? = some (.cells #[.int .i64 0, .int .i64 0, .int .i64 0, .int .i64 0, .int .i64 0, .int .i64 0, .int .i64 0, .int .i64 0, .int .i64 0, .string ⟨#[]⟩, .slice none 0 0, .slice none 0 0] 42)) := box_below (box_new w _) hb1 (by omega)
    have x1 := box_cells X1.out
    have f1 := box_free X1.out
    have hlt1 : w.heap.size < w1.heap.size := by omega
    have hne1 : w.heap.size ≠ w1.heap.size := by omega
    have hne2 : ¬ w1.heap.size = w.heap.size := by omega
    clear hcv hx hal
    go_wp2
    exact bodyPost_ret (v := .tuple #[.agg #[.int .i64 0, .int .i64 0, .int .i64 0, .int .i64 0, .int .i64 0, .int .i64 0, .int .i64 0, .int .i64 0, .int .i64 0, .string ⟨#[]⟩, .slice none 0 0, .slice none 0 0], .int .i64 3]) (by simp [results, Try.results39, x1, hlt1, hne1, hne2, go_sem]) rfl ⟨none, 0, none, 0, rfl, Nat.zero_le _, .inl rfl, .inl rfl, .inl rfl, ((set12_below B1 (Nat.le_refl _) _ _ _ _ _ _ _ _ _ _ _ _).alloc (by simp; omega) _)⟩
  ·
    have h1' : n0 ≤ 65536 := by rw [← hl]; omega
    have HR := Lib.hid (HRS.out h1')
    rw [hN] at HR
    clear hl hsz h1 HRS hN
    go_enter Try.func39, Try.ntmps39
    go_wp2_with fail
    refine HR.out.mono ?_
    rintro e w1 ⟨wd, ht, x, y, lk, tp, bt, sx, sy, ti, aC, nC, cC, aH, nH, cH, rfl, hx, hb1⟩
    have hz1 : w.heap.size + 1 ≤ w1.heap.size := by have := hb1.size; omega
    have B1 : Below w.heap.size w w1 := hbw.trans (hb1.mono (by omega))
    have X1 : Hid (w1.heap[w.heap.size]? = some (.cells #[.int .i64 0, .int .i64 0, .int .i64 0, .int .i64 0, .int .i64 0, .int .i64 0, .int .i64 0, .int .i64 0, .int .i64 0, .string ⟨#[]⟩, .slice none 0 0, .slice none 0 0] 42)) := box_below (box_new w _) hb1 (by omega)
    have x1 := box_cells X1.out
    have f1 := box_free X1.out
    have hlt1 : w.heap.size < w1.heap.size := by omega
    have hne1 : w.heap.size ≠ w1.heap.size := by omega
    have hne2 : ¬ w1.heap.size = w.heap.size := by omega
    obtain ⟨he, hcl, hcc, hhl, hap, hmC, hmH⟩ := hx _ rfl
    obtain ⟨rfl, rfl, rfl, rfl, rfl, rfl, rfl, rfl, rfl, rfl⟩ : wd = q1 ∧ ht = q2 ∧ x = q3 ∧ y = q4 ∧ lk = q5 ∧ tp = q6 ∧ bt = q7 ∧ sx = q8 ∧ sy = q9 ∧ ti = qt := by cases he; exact ⟨rfl, rfl, rfl, rfl, rfl, rfl, rfl, rfl, rfl, rfl⟩
    obtain rfl : nC = n := hcl.symm.trans hrc
    obtain rfl : nH = lr := hhl.symm.trans hrh
    have HMC : Hid (Mine (w.heap.size + 1) w1 aC (cellsV rc)) := by have h := hmC; rw [hal] at h; exact h
    have HMH : Hid (Mine (w.heap.size + 1) w1 aH (strs rh)) := by have h := hmH; rw [hal] at h; exact h
    have HAP : Hid (Apart aC (cellsV rc) aH (strs rh)) := hap
    have HCC := Lib.hid hcc
    clear hcv hx he hcl hcc hhl hap hmC hmH hrc hrh hal
    go_wp2
    exact bodyPost_ret (v := .tuple #[.agg #[.int .i64 wd, .int .i64 ht, .int .i64 x, .int .i64 y, .int .i64 lk, .int .i64 tp, .int .i64 bt, .int .i64 sx, .int .i64 sy, .string ti, .slice aC nC cC, .slice aH nH cH], .int .i64 0]) (by simp [results, Try.results39, x1, hlt1, hne1, hne2, go_sem]) rfl ⟨aC, cC, aH, cH, rfl, HCC.out, HAP.out, (mine_alloc (set12_mine HMC.out (by omega) _ _ _ _ _ _ _ _ _ _ _ _) _).mono (by omega), (mine_alloc (set12_mine HMH.out (by omega) _ _ _ _ _ _ _ _ _ _ _ _) _).mono (by omega), ((set12_below B1 (Nat.le_refl _) _ _ _ _ _ _ _ _ _ _ _ _).alloc (by simp; omega) _)⟩
set_option maxHeartbeats 4000000 in
theorem implReadScreen_any (ao : Option Addr) (n0 c0 : Nat) (l : List UInt8) (q1 q2 q3 q4 q5 q6 q7 q8 q9 : Int) (qt : ByteArray) (n : Nat) (rc : List (Int × Int)) (lr : Nat) (rh : List ByteArray) (cd : Int) (w : World) (ha : At w ao (u8s l)) (hl : l.length = n0) (hn : n0 ≤ 16777216) (hR : RdsIs l q1 q2 q3 q4 q5 q6 q7 q8 q9 qt n rc lr rh cd) :
    Calls Try.prog 41 #[.slice ao n0 c0] w (ScrPost w q1 q2 q3 q4 q5 q6 q7 q8 q9 qt n rc lr rh cd) := by
  have hbw : Below w.heap.size w ((w.alloc (.cells #[.int .i64 0, .int .i64 0, .int .i64 0, .int .i64 0, .int .i64 0, .int .i64 0, .int .i64 0, .int .i64 0, .int .i64 0, .string ⟨#[]⟩, .slice none 0 0, .slice none 0 0] 42)).alloc (.cells #[.int .i64 n0] 3)) := ((Below.refl _ _).alloc (Nat.le_refl _) _).alloc (by simp) _
  have hcv := conv_at (P := Try.prog) 58 9 5 n0 c0 Try.underlying58 Try.underlying5 Try.underlying9 (ha.below hbw (Nat.le_refl _)) hl
  have hsz : (⟨l.toArray⟩ : ByteArray).size = n0 := by rw [← hl]; rfl
  have HI := Lib.hid (isLong_any (some ⟨w.heap.size + 1, 0, none⟩) 1 1 [(n0 : Int)] ((w.alloc (.cells #[.int .i64 0, .int .i64 0, .int .i64 0, .int .i64 0, .int .i64 0, .int .i64 0, .int .i64 0, .int .i64 0, .int .i64 0, .string ⟨#[]⟩, .slice none 0 0, .slice none 0 0] 42)).alloc (.cells #[.int .i64 n0] 3)) (by rw [show w.heap.size + 1 = (w.alloc (.cells #[.int .i64 0, .int .i64 0, .int .i64 0, .int .i64 0, .int .i64 0, .int .i64 0, .int .i64 0, .int .i64 0, .int .i64 0, .string ⟨#[]⟩, .slice none 0 0, .slice none 0 0] 42)).heap.size from by simp]; exact at_new _ _ _ _) rfl (by decide))
  have hal : ((w.alloc (.cells #[.int .i64 0, .int .i64 0, .int .i64 0, .int .i64 0, .int .i64 0, .int .i64 0, .int .i64 0, .int .i64 0, .int .i64 0, .string ⟨#[]⟩, .slice none 0 0, .slice none 0 0] 42)).alloc (.cells #[.int .i64 n0] 3)).heap.size = w.heap.size + 2 := by simp
  have HRS : Hid (n0 ≤ 65536 → Calls Try.prog 76 #[.string ⟨l.toArray⟩] ((w.alloc (.cells #[.int .i64 0, .int .i64 0, .int .i64 0, .int .i64 0, .int .i64 0, .int .i64 0, .int .i64 0, .int .i64 0, .int .i64 0, .string ⟨#[]⟩, .slice none 0 0, .slice none 0 0] 42)).alloc (.cells #[.int .i64 n0] 3)) (RsPost ((w.alloc (.cells #[.int .i64 0, .int .i64 0, .int .i64 0, .int .i64 0, .int .i64 0, .int .i64 0, .int .i64 0, .int .i64 0, .int .i64 0, .string ⟨#[]⟩, .slice none 0 0, .slice none 0 0] 42)).alloc (.cells #[.int .i64 n0] 3)) (rdI ⟨l.toArray⟩))) := fun h => readScreen_any _ _ (by rw [hsz]; exact h)
  rcases hR with ⟨h1, rfl, rfl, rfl, rfl, rfl, rfl, rfl, rfl, rfl, rfl, rfl, rfl, rfl, rfl, rfl⟩ | ⟨h1, hN, rfl, rfl, rfl, rfl, rfl, rfl, rfl, rfl, rfl, rfl, rfl, rfl, rfl, rfl, rfl⟩ | ⟨h1, hN, hrc, hrh, rfl⟩
  · have h1' : 65536 < n0 := by rw [← hl]; exact h1
    have hd : ([(n0 : Int)].any fun x => decide (65536 < x)) = true := by simp; omega
    clear hl hcv hsz h1 HRS
    go_enter Try.func41, Try.ntmps41
    go_wp2_with (go_at_call 75; refine HI.out.mono ?_; rw [hd]; rintro e w' ⟨rfl, rfl⟩)
    exact bodyPost_ret (v := .tuple #[.agg #[.int .i64 0, .int .i64 0, .int .i64 0, .int .i64 0, .int .i64 0, .int .i64 0, .int .i64 0, .int .i64 0, .int .i64 0, .string ⟨#[]⟩, .slice none 0 0, .slice none 0 0], .int .i64 2]) (by simp [results, Try.results41, go_sem]) rfl ⟨none, 0, none, 0, rfl, Nat.zero_le _, .inl rfl, .inl rfl, .inl rfl, hbw⟩
  ·
    have h1' : n0 ≤ 65536 := by rw [← hl]; omega
    have HR := Lib.hid (HRS.out h1')
    rw [hN] at HR
    have hd : ([(n0 : Int)].any fun x => decide (65536 < x)) = false := by simp; omega
    clear hl hsz h1 HRS hN
    go_enter Try.func41, Try.ntmps41
    go_wp2_with (go_at_call 75; refine HI.out.mono ?_; rw [hd]; rintro e w' ⟨rfl, rfl⟩)
    refine HR.out.mono ?_
    rintro e w1 ⟨wd, ht, x, y, lk, tp, bt, sx, sy, ti, aC, nC, cC, aH, nH, cH, rfl, hx, hb1⟩
    have hz1 : w.heap.size + 2 ≤ w1.heap.size := by have := hb1.size; omega
    have B1 : Below w.heap.size w w1 := hbw.trans (hb1.mono (by omega))
    have X1 : Hid (w1.heap[w.heap.size]? = some (.cells #[.int .i64 0, .int .i64 0, .int .i64 0, .int .i64 0, .int .i64 0, .int .i64 0, .int .i64 0, .int .i64 0, .int .i64 0, .string ⟨#[]⟩, .slice none 0 0, .slice none 0 0] 42)) := box_below ((Below.heap_alloc _ _ w.heap.size (by simp)).trans (box_new w _)) hb1 (by omega)
    have x1 := box_cells X1.out
    have f1 := box_free X1.out
    have hlt1 : w.heap.size < w1.heap.size := by omega
    have hne1 : w.heap.size ≠ w1.heap.size := by omega
    have hne2 : ¬ w1.heap.size = w.heap.size := by omega
    clear hcv hx hal
    go_wp2
    exact bodyPost_ret (v := .tuple #[.agg #[.int .i64 0, .int .i64 0, .int .i64 0, .int .i64 0, .int .i64 0, .int .i64 0, .int .i64 0, .int .i64 0, .int .i64 0, .string ⟨#[]⟩, .slice none 0 0, .slice none 0 0], .int .i64 3]) (by simp [results, Try.results41, x1, hlt1, hne1, hne2, go_sem]) rfl ⟨none, 0, none, 0, rfl, Nat.zero_le _, .inl rfl, .inl rfl, .inl rfl, ((set12_below B1 (Nat.le_refl _) _ _ _ _ _ _ _ _ _ _ _ _).alloc (by simp; omega) _)⟩
  ·
    have h1' : n0 ≤ 65536 := by rw [← hl]; omega
    have HR := Lib.hid (HRS.out h1')
    rw [hN] at HR
    have hd : ([(n0 : Int)].any fun x => decide (65536 < x)) = false := by simp; omega
    clear hl hsz h1 HRS hN
    go_enter Try.func41, Try.ntmps41
    go_wp2_with (go_at_call 75; refine HI.out.mono ?_; rw [hd]; rintro e w' ⟨rfl, rfl⟩)
    refine HR.out.mono ?_
    rintro e w1 ⟨wd, ht, x, y, lk, tp, bt, sx, sy, ti, aC, nC, cC, aH, nH, cH, rfl, hx, hb1⟩
    have hz1 : w.heap.size + 2 ≤ w1.heap.size := by have := hb1.size; omega
    have B1 : Below w.heap.size w w1 := hbw.trans (hb1.mono (by omega))
    have X1 : Hid (w1.heap[w.heap.size]? = some (.cells #[.int .i64 0, .int .i64 0, .int .i64 0, .int .i64 0, .int .i64 0, .int .i64 0, .int .i64 0, .int .i64 0, .int .i64 0, .string ⟨#[]⟩, .slice none 0 0, .slice none 0 0] 42)) := box_below ((Below.heap_alloc _ _ w.heap.size (by simp)).trans (box_new w _)) hb1 (by omega)
    have x1 := box_cells X1.out
    have f1 := box_free X1.out
    have hlt1 : w.heap.size < w1.heap.size := by omega
    have hne1 : w.heap.size ≠ w1.heap.size := by omega
    have hne2 : ¬ w1.heap.size = w.heap.size := by omega
    obtain ⟨he, hcl, hcc, hhl, hap, hmC, hmH⟩ := hx _ rfl
    obtain ⟨rfl, rfl, rfl, rfl, rfl, rfl, rfl, rfl, rfl, rfl⟩ : wd = q1 ∧ ht = q2 ∧ x = q3 ∧ y = q4 ∧ lk = q5 ∧ tp = q6 ∧ bt = q7 ∧ sx = q8 ∧ sy = q9 ∧ ti = qt := by cases he; exact ⟨rfl, rfl, rfl, rfl, rfl, rfl, rfl, rfl, rfl, rfl⟩
    obtain rfl : nC = n := hcl.symm.trans hrc
    obtain rfl : nH = lr := hhl.symm.trans hrh
    have HMC : Hid (Mine (w.heap.size + 2) w1 aC (cellsV rc)) := by have h := hmC; rw [hal] at h; exact h
    have HMH : Hid (Mine (w.heap.size + 2) w1 aH (strs rh)) := by have h := hmH; rw [hal] at h; exact h
    have HAP : Hid (Apart aC (cellsV rc) aH (strs rh)) := hap
    have HCC := Lib.hid hcc
    clear hcv hx he hcl hcc hhl hap hmC hmH hrc hrh hal
    go_wp2
    exact bodyPost_ret (v := .tuple #[.agg #[.int .i64 wd, .int .i64 ht, .int .i64 x, .int .i64 y, .int .i64 lk, .int .i64 tp, .int .i64 bt, .int .i64 sx, .int .i64 sy, .string ti, .slice aC nC cC, .slice aH nH cH], .int .i64 0]) (by simp [results, Try.results41, x1, hlt1, hne1, hne2, go_sem]) rfl ⟨aC, cC, aH, cH, rfl, HCC.out, HAP.out, (mine_alloc (set12_mine HMC.out (by omega) _ _ _ _ _ _ _ _ _ _ _ _) _).mono (by omega), (mine_alloc (set12_mine HMH.out (by omega) _ _ _ _ _ _ _ _ _ _ _ _) _).mono (by omega), ((set12_below B1 (Nat.le_refl _) _ _ _ _ _ _ _ _ _ _ _ _).alloc (by simp; omega) _)⟩
end Go.Proofs.Ytfabclhcceooaaa
