/-
  Contract of the given program's scrollUp that keeps nothing. Conditions: the screen stands in memory, the rows lie in it.
-/
import Derived.Test.YtfpbboldfilhlaaDoorApCopy
import Derived.Deep.RegionHeld3
import Derived.Deep.RegionWith
import Derived.Deep.DeepCutAuto
import Derived.StillTailTactics
import Derived.Deep.RegionLaw
namespace Go.Proofs.YtfpbboldfilhlaaDoor
open Go.ChangeShapes Go.WideShapes Go.ChangeAt Go.RowKit
set_option linter.unusedVariables false
set_option linter.unusedSimpArgs false
set_option maxRecDepth 100000
/-- the answer of a method that writes on a screen -/
def ScrPost (ty : TypeId) (B b gC oC capC : Nat) (ao : Option Addr) (cap : Nat) (S : Sc) (cs : List (Int × Int)) (hs : List ByteArray) (w : World) (e : Ending) (w' : World) : Prop :=
  e = .returned (.tuple #[]) ∧ ∃ ao' cap', ScrAt ty B b gC oC capC ao' cap' S cs hs w' ∧ Kept b gC ao cap w w' ∧ NewH ao cap w ao' cap'
theorem rowText0_any {B b gC oC capC : Nat} {ao : Option Addr} {cap : Nat} {W H x y lk tp bt sx sy : Nat} {ti : ByteArray} {cs : List (Int × Int)} {hs : List ByteArray} {w : World} (h : ScrAt 27 B b gC oC capC ao cap ⟨W, H, x, y, lk, tp, bt, sx, sy, ti⟩ cs hs w) (k : Ok W H cs hs) :
    Calls Tryd.prog 18 #[.pointer (some ⟨b, 0, none⟩), .int .i64 0] w fun e w' => e = .returned (.string (rowBt cs W)) ∧ Below w.heap.size w w' := by
  have h1 := k.pos
  have h2 := k.row (b := 0) (by have := k.h0; omega)
  exact rowText_any b (W : Int) (H : Int) (x : Int) (y : Int) (lk : Int) (tp : Int) (bt : Int) (sx : Int) (sy : Int) ti (some ⟨gC, oC, none⟩) cs.length capC cs ao hs.length cap W 0 w h.box h.at rfl (by omega) h.cc k.cz rfl k.w0 k.w1 (by omega) (by omega)
attribute [local irreducible] wpList
set_option maxHeartbeats 8000000 in
theorem scrollUpF_any (a b n N : Nat) {B p gC oC capC : Nat} {ao : Option Addr} {cap : Nat} {W H x y lk tp bt sx sy : Nat} {ti : ByteArray} {cs : List (Int × Int)} {hs : List ByteArray} {w : World} (h : ScrAt 27 B p gC oC capC ao cap ⟨W, H, x, y, lk, tp, bt, sx, sy, ti⟩ cs hs w) (k0 : Ok W H cs hs) (hab : a ≤ b) (hb : b < H) (hn : n ≤ 9999) (hN : min n (b + 1 - a) = N) :
    Calls Tryd.prog 64 #[.pointer (some ⟨p, 0, none⟩), .int .i64 (a : Int), .int .i64 (b : Int), .int .i64 (n : Int), .bool false] w (ScrPost 27 B p gC oC capC ao cap ⟨W, H, x, y, lk, tp, bt, sx, sy, ti⟩ (upN W a b false N cs hs).1 (upN W a b false N cs hs).2 w) := by
  have hmin : min (n : Int) ((b : Int) - (a : Int) + 1) = (N : Int) := by omega
  have hw1 : IntKind.i64.wrap ((b : Int) - (a : Int)) = (b : Int) - (a : Int) := by have := k0.h1; rw [IntKind.wrap_i64] <;> omega
  have hw2 : IntKind.i64.wrap ((b : Int) - (a : Int) + 1) = (b : Int) - (a : Int) + 1 := by have := k0.h1; rw [IntKind.wrap_i64] <;> omega
  have v1 : IntKind.i64.wrap ((b : Int) + 1) = (b : Int) + 1 := by have := k0.h1; rw [IntKind.wrap_i64] <;> omega
  have v2 : IntKind.i64.wrap ((a : Int) + 1) = (a : Int) + 1 := by have := k0.h1; rw [IntKind.wrap_i64] <;> omega
  have hN10 : N ≤ 10 := by have := k0.h1; omega
  obtain ⟨pa, hpa⟩ : ∃ v, a * W = v := ⟨_, rfl⟩
  obtain ⟨pb, hpb⟩ : ∃ v, b * W = v := ⟨_, rfl⟩
  obtain ⟨qa, hqa⟩ : ∃ v, (a + 1) * W = v := ⟨_, rfl⟩
  obtain ⟨qb, hqb⟩ : ∃ v, (b + 1) * W = v := ⟨_, rfl⟩
  obtain ⟨nn, hnn⟩ : ∃ v, (b - a) * W = v := ⟨_, rfl⟩
  obtain ⟨r1, r2, r3, r4, r5⟩ := k0.rows hab hb
  have hlen := k0.pos
  have HPL : Hid (a * W = pa ∧ b * W = pb ∧ (a + 1) * W = qa ∧ (b + 1) * W = qb ∧ (b - a) * W = nn) := ⟨hpa, hpb, hqa, hqb, hnn⟩
  have m1 : (a : Int) * (W : Int) = (pa : Int) := by rw [← hpa]; simp
  have m2 : (b : Int) * (W : Int) = (pb : Int) := by rw [← hpb]; simp
  have m3 : ((a : Int) + 1) * (W : Int) = (qa : Int) := by rw [← hqa]; simp
  have m4 : ((b : Int) + 1) * (W : Int) = (qb : Int) := by rw [← hqb]; simp
  rw [hpa, hnn, hpb] at r1
  rw [hqa, hnn, hqb] at r2
  rw [hqb] at r3
  rw [hqa, hpa] at r4
  rw [hqb, hpb] at r5
  have e1 : pb - pa = nn := by omega
  have e2 : qb - qa = nn := by omega
  have e3 : qb - pb = W := by omega
  have e4 : qa - pa = W := by omega
  have l1 : pa ≤ pb := by omega
  have l2 : qa ≤ qb := by omega
  have l3 : pb < qb := by have := k0.w0; omega
  have l3a : pa < qa := by have := k0.w0; omega
  have l4 : pb + W ≤ cs.length := by omega
  have l4a : pa + W ≤ cs.length := by omega
  have l5 : pa + nn ≤ cs.length := by omega
  have l6 : qa + nn ≤ cs.length := by omega
  have l7 : qb ≤ cs.length := r3
  have hcc := h.cc
  obtain ⟨lc, hlc⟩ : ∃ v, cs.length = v := ⟨_, rfl⟩
  have HLC := Lib.hid hlc
  have g1 : 2 ≤ W := k0.w0
  have g2 : W ≤ 24 := k0.w1
  have g3 : H ≤ 10 := k0.h1
  have HS0 : Hid (∃ ao1 cap1, ScrAt 27 B p gC oC capC ao1 cap1 ⟨W, H, x, y, lk, tp, bt, sx, sy, ti⟩ (upN W a b false 0 cs hs).1 (upN W a b false 0 cs hs).2 w ∧ Kept p gC ao cap w w ∧ NewH ao cap w ao1 cap1) := ⟨ao, cap, h, Kept.refl _ _ _ _ _, NewH.refl _ _ _⟩
  have HK0 := Lib.hid k0
  rw [hlc] at l4 l4a l5 l6 l7 hlen hcc
  clear h k0 hpa hpb hqa hqb hnn hlc r1 r2 r3 r4 r5 hN
  obtain ⟨i0, hi, iz0, iz1, iz2⟩ := info_parts Tryd.info_istr
  go_enter Tryd.func64, Tryd.ntmps64
  go_wp2_with fail
  go_loopw [16] (fun i wr => ∃ k : Nat, k ≤ N ∧ i = .int .i64 k ∧ Hid (∃ ao1 cap1, ScrAt 27 B p gC oC capC ao1 cap1 ⟨W, H, x, y, lk, tp, bt, sx, sy, ti⟩ (upN W a b false k cs hs).1 (upN W a b false k cs hs).2 wr ∧ Kept p gC ao cap w wr ∧ NewH ao cap w ao1 cap1)) (fun i _ => N - (intOf i).toNat)
  case atStart => exact ⟨0, Nat.zero_le _, rfl, HS0⟩
  case round =>
    obtain ⟨k, hk, rfl, hst⟩ := hrel
    clear HS0
    by_cases hkt : k < N
    · obtain ⟨ao1, cap1, hS, hK, hNw⟩ := hst.out
      have hok := HK0.out.upN false hab hb k
      obtain ⟨cs1, hc1⟩ : ∃ v, (upN W a b false k cs hs).1 = v := ⟨_, rfl⟩
      obtain ⟨hs1, hh1⟩ : ∃ v, (upN W a b false k cs hs).2 = v := ⟨_, rfl⟩
      have HU : Hid ((upN W a b false (k + 1) cs hs).1 = upC W a b cs1 ∧ (upN W a b false (k + 1) cs hs).2 = if a = 0 ∧ false = true then pushH hs1 (rowBt cs1 W) else hs1) := ⟨by rw [← hc1]; rfl, by rw [← hc1, ← hh1]; rfl⟩
      rw [hc1, hh1] at hS hok
      have HL1 : Hid (cs1.length = lc) := by show _ = _; rw [← HLC.out, hok.cl, HK0.out.cl]
      have HOK := Lib.hid hok
      have hh6 := hok.hl
      have HST := Lib.hid hS
      have HKP := Lib.hid hK
      have HNW := Lib.hid hNw
      have hpw := hS.lt
      have hgw := hS.glt
      clear hst hc1 hh1 hok hK hNw hS
      go_upto_region 2 with fail
      go_cut [22] (fun c wx => c = .bool false ∧ wr = wx)
      case first =>
        go_wp2_with fail
        all_goals
          go_meet
          case rel => exact ⟨rfl, rfl⟩
      obtain ⟨rfl, hwx⟩ := hcut
      subst hwx
      have HHA : Hid (hs1 = (upN W a b false (k + 1) cs hs).2) := by show _ = _; rw [HU.out.2, if_neg (by simp)]
      have HSA := HST
      have HKA := HKP
      have HNA := HNW
      clear HST HKP HNW
      generalize hs1 = hsA at *
      generalize ao1 = aoA at *
      generalize cap1 = capA at *
      
      have HNX : Hid ((upN W a b false (k + 1) cs hs).1 = fillL (cpyL cs1 pa qa nn) pb W) := by show _ = _; obtain ⟨z1, z2, z3, z4, z5⟩ := HPL.out; rw [HU.out.1, upC]; simp only [z1, z2, z3, z5]
      have hzA := HKA.out.size
      have n1 : ¬ capC = pa := by omega
      have n3 : ¬ capC = pb := by omega
      have i1 : (0 : Int) ≤ (pa : Int) := by omega
      have i2 : (pa : Int) ≤ (pb : Int) := by omega
      have i2a : (pa : Int) ≤ (qa : Int) := by omega
      have i3 : (pb : Int) ≤ (capC : Int) := by omega
      have i3a : (qa : Int) ≤ (capC : Int) := by omega
      have i4 : (0 : Int) ≤ (qa : Int) := by omega
      have i5 : (qa : Int) ≤ (qb : Int) := by omega
      have i6 : (qb : Int) ≤ (capC : Int) := by omega
      have i7 : (0 : Int) ≤ (pb : Int) := by omega
      have i8 : (pb : Int) ≤ (qb : Int) := by omega
      have u1 : pb ≤ 240 := by omega
      have u2 : qb ≤ 240 := by omega
      have v3 : IntKind.i64.wrap (pa : Int) = (pa : Int) := by rw [IntKind.wrap_i64] <;> omega
      have v4 : IntKind.i64.wrap (pb : Int) = (pb : Int) := by rw [IntKind.wrap_i64] <;> omega
      have v5 : IntKind.i64.wrap (qa : Int) = (qa : Int) := by rw [IntKind.wrap_i64] <;> omega
      have v6 : IntKind.i64.wrap (qb : Int) = (qb : Int) := by rw [IntKind.wrap_i64] <;> omega
      have xA : ∀ i, wr.drew.cell? ⟨p, i, none⟩ = (#[.int .i64 (W : Int), .int .i64 (H : Int), .int .i64 (x : Int), .int .i64 (y : Int), .int .i64 (lk : Int), .int .i64 (tp : Int), .int .i64 (bt : Int), .int .i64 (sx : Int), .int .i64 (sy : Int), .string ti, .slice (some ⟨gC, oC, none⟩) lc capC, .slice aoA hsA.length capA] : Array Value)[i]? := by have h := HSA.out.drew.x; rw [HL1.out] at h; exact h
      clear hpw hgw
      obtain ⟨w5, hw5⟩ : ∃ v, v = wr.drew.setCells gC (oC + pa * 2) (cellsV ((cs1.drop qa).take nn)) := ⟨_, rfl⟩
      have HS5 : Hid (ScrAt 27 B p gC oC capC aoA capA ⟨W, H, x, y, lk, tp, bt, sx, sy, ti⟩ (cpyL cs1 pa qa nn) hsA w5) := by show ScrAt _ _ _ _ _ _ _ _ _ _ _ _; rw [hw5]; exact HSA.out.drew.cpy pa qa nn (by rw [HL1.out]; omega) (by rw [HL1.out]; omega)
      have HK5 : Hid (Kept p gC ao cap w w5) := by show Kept _ _ _ _ _ _; rw [hw5]; exact HKA.out.drew.cells _ _
      have HL5 : Hid ((cpyL cs1 pa qa nn).length = lc) := by show _ = _; rw [length_cpyL (by rw [HL1.out]; omega) (by rw [HL1.out]; omega)]; exact HL1.out
      have hrun1 := HSA.out.drew.cpRun pa qa nn (capC - pa) (capC - qa) (by rw [HL1.out]; omega) (by rw [HL1.out]; omega)
      rw [← hw5] at hrun1
      have hrun2 : nn = 0 → ∀ c d, (Builtin.copy_ #[24, 24] 3 #[.slice (some ⟨gC, oC + pa * 2, none⟩) 0 d, .slice (some ⟨gC, oC, none⟩) 0 c]).run Tryd.prog wr.drew = .ok (goInt 0) w5 := fun h0 c d => by rw [hw5, h0]; exact cpZero _ _ _ _ _ _ _
      clear hw5
      rcases Nat.lt_or_ge qa capC with hq | hq
      · have n2 : ¬ capC = qa := by omega
        clear hrun2
        go_wp2_with fail
        go_still_tail 36, (by kernel_rfl)
        change wpList _ _ _ _ _ wr.drew
        go_wp2_with fail
        clear hrun1 xA n2 e1 e2
        go_wp2_with fail
        have x5 : ∀ i, w5.drew.cell? ⟨p, i, none⟩ = (#[.int .i64 (W : Int), .int .i64 (H : Int), .int .i64 (x : Int), .int .i64 (y : Int), .int .i64 (lk : Int), .int .i64 (tp : Int), .int .i64 (bt : Int), .int .i64 (sx : Int), .int .i64 (sy : Int), .string ti, .slice (some ⟨gC, oC, none⟩) lc capC, .slice aoA hsA.length capA] : Array Value)[i]? := by have h := HS5.out.drew.x; rw [HL5.out] at h; exact h
        have hz5 := HK5.out.size
        have hp5 := HS5.out.lt
        go_region_held3 (fun w' => ∀ i, w'.cell? ⟨p, i, none⟩ = (#[.int .i64 (W : Int), .int .i64 (H : Int), .int .i64 (x : Int), .int .i64 (y : Int), .int .i64 (lk : Int), .int .i64 (tp : Int), .int .i64 (bt : Int), .int .i64 (sx : Int), .int .i64 (sy : Int), .string ti, .slice (some ⟨gC, oC, none⟩) lc capC, .slice aoA hsA.length capA] : Array Value)[i]?) (first | with_reducible exact x7 | with_reducible exact x6 | with_reducible exact x5)
          (first
          | (go_at_call 19; refine (blanks_any (W : Int) W w5.drew rfl (by omega) (by omega)).mono ?_; rintro e w6 ⟨a6, c6, rfl, hc6, hm6, hb6⟩; obtain ⟨g6, o6, rfl, _⟩ := hm6.get (by intro e0; have := congrArg List.length e0; rw [length_cellsV, List.length_replicate] at this; simp at this; omega); have HS6 := Lib.hid (HS5.out.drew.below hb6 (Nat.le_refl _)); have x6 : ∀ i, w6.cell? ⟨p, i, none⟩ = (#[.int .i64 (W : Int), .int .i64 (H : Int), .int .i64 (x : Int), .int .i64 (y : Int), .int .i64 (lk : Int), .int .i64 (tp : Int), .int .i64 (bt : Int), .int .i64 (sx : Int), .int .i64 (sy : Int), .string ti, .slice (some ⟨gC, oC, none⟩) lc capC, .slice aoA hsA.length capA] : Array Value)[i]? := (by have h := HS6.out.x; rw [HL5.out] at h; exact h); obtain ⟨w7, hw7⟩ : ∃ v, v = w6.setCells gC (oC + pb * 2) (cellsV (List.replicate W blC)) := ⟨_, rfl⟩; have hrun6 := fun cD => HS6.out.fillRun pb W cD c6 g6 o6 (by rw [HL5.out]; omega) hm6.at; rw [← hw7] at hrun6; have HS7 := Lib.hid (HS6.out.fil pb W (by rw [HL5.out]; omega)); rw [← hw7] at HS7; have HK7 := Lib.hid ((HK5.out.drew.below hb6 (Nat.le_refl _)).cells (cellsV (List.replicate W blC)) (oC + pb * 2)); rw [← hw7] at HK7; have x7 : ∀ i, w7.cell? ⟨p, i, none⟩ = (#[.int .i64 (W : Int), .int .i64 (H : Int), .int .i64 (x : Int), .int .i64 (y : Int), .int .i64 (lk : Int), .int .i64 (tp : Int), .int .i64 (bt : Int), .int .i64 (sx : Int), .int .i64 (sy : Int), .string ti, .slice (some ⟨gC, oC, none⟩) lc capC, .slice aoA hsA.length capA] : Array Value)[i]? := (by have h := HS7.out.x; rw [length_fillL (by rw [HL5.out]; omega), HL5.out] at h; exact h); clear hw7; clear hm6)
          | fail)
        rename_i hh
        clear hh x5 x6 x7 hrun6
        clear hb6 hp5
        go_wp2
        go_roundw
        case rel =>
          first
          | exact ⟨k + 1, by omega, by go_num, ⟨aoA, capA, by rw [HNX.out, ← HHA.out]; exact HS7.out, HK7.out, HNA.out⟩⟩
          | (repeat apply Exists.intro
             exact ⟨⟨k + 1, by omega, by go_num, ⟨aoA, capA, by rw [HNX.out, ← HHA.out]; exact HS7.out, HK7.out, HNA.out⟩⟩, rfl⟩)
        case measure => simp [intOf] <;> omega
      · have hq0 : nn = 0 := by omega
        have hrun3 := hrun2 hq0
        have hqc : capC = qa := by omega
        subst hqc
        have hpe : pb - pa = 0 := by omega
        have hqe : qb - capC = 0 := by omega
        clear hrun2 hrun1 e1 e2
        go_wp2_with fail
        go_still_tail 36, (by kernel_rfl)
        change wpList _ _ _ _ _ wr.drew
        go_wp2_with fail
        clear hrun3 xA hpe hqe hq0
        go_wp2_with fail
        have x5 : ∀ i, w5.drew.cell? ⟨p, i, none⟩ = (#[.int .i64 (W : Int), .int .i64 (H : Int), .int .i64 (x : Int), .int .i64 (y : Int), .int .i64 (lk : Int), .int .i64 (tp : Int), .int .i64 (bt : Int), .int .i64 (sx : Int), .int .i64 (sy : Int), .string ti, .slice (some ⟨gC, oC, none⟩) lc capC, .slice aoA hsA.length capA] : Array Value)[i]? := by have h := HS5.out.drew.x; rw [HL5.out] at h; exact h
        have hz5 := HK5.out.size
        have hp5 := HS5.out.lt
        go_region_held3 (fun w' => ∀ i, w'.cell? ⟨p, i, none⟩ = (#[.int .i64 (W : Int), .int .i64 (H : Int), .int .i64 (x : Int), .int .i64 (y : Int), .int .i64 (lk : Int), .int .i64 (tp : Int), .int .i64 (bt : Int), .int .i64 (sx : Int), .int .i64 (sy : Int), .string ti, .slice (some ⟨gC, oC, none⟩) lc capC, .slice aoA hsA.length capA] : Array Value)[i]?) (first | with_reducible exact x7 | with_reducible exact x6 | with_reducible exact x5)
          (first
          | (go_at_call 19; refine (blanks_any (W : Int) W w5.drew rfl (by omega) (by omega)).mono ?_; rintro e w6 ⟨a6, c6, rfl, hc6, hm6, hb6⟩; obtain ⟨g6, o6, rfl, _⟩ := hm6.get (by intro e0; have := congrArg List.length e0; rw [length_cellsV, List.length_replicate] at this; simp at this; omega); have HS6 := Lib.hid (HS5.out.drew.below hb6 (Nat.le_refl _)); have x6 : ∀ i, w6.cell? ⟨p, i, none⟩ = (#[.int .i64 (W : Int), .int .i64 (H : Int), .int .i64 (x : Int), .int .i64 (y : Int), .int .i64 (lk : Int), .int .i64 (tp : Int), .int .i64 (bt : Int), .int .i64 (sx : Int), .int .i64 (sy : Int), .string ti, .slice (some ⟨gC, oC, none⟩) lc capC, .slice aoA hsA.length capA] : Array Value)[i]? := (by have h := HS6.out.x; rw [HL5.out] at h; exact h); obtain ⟨w7, hw7⟩ : ∃ v, v = w6.setCells gC (oC + pb * 2) (cellsV (List.replicate W blC)) := ⟨_, rfl⟩; have hrun6 := fun cD => HS6.out.fillRun pb W cD c6 g6 o6 (by rw [HL5.out]; omega) hm6.at; rw [← hw7] at hrun6; have HS7 := Lib.hid (HS6.out.fil pb W (by rw [HL5.out]; omega)); rw [← hw7] at HS7; have HK7 := Lib.hid ((HK5.out.drew.below hb6 (Nat.le_refl _)).cells (cellsV (List.replicate W blC)) (oC + pb * 2)); rw [← hw7] at HK7; have x7 : ∀ i, w7.cell? ⟨p, i, none⟩ = (#[.int .i64 (W : Int), .int .i64 (H : Int), .int .i64 (x : Int), .int .i64 (y : Int), .int .i64 (lk : Int), .int .i64 (tp : Int), .int .i64 (bt : Int), .int .i64 (sx : Int), .int .i64 (sy : Int), .string ti, .slice (some ⟨gC, oC, none⟩) lc capC, .slice aoA hsA.length capA] : Array Value)[i]? := (by have h := HS7.out.x; rw [length_fillL (by rw [HL5.out]; omega), HL5.out] at h; exact h); clear hw7; clear hm6)
          | fail)
        rename_i hh
        clear hh x5 x6 x7 hrun6
        clear hb6 hp5
        go_wp2
        go_roundw
        case rel =>
          first
          | exact ⟨k + 1, by omega, by go_num, ⟨aoA, capA, by rw [HNX.out, ← HHA.out]; exact HS7.out, HK7.out, HNA.out⟩⟩
          | (repeat apply Exists.intro
             exact ⟨⟨k + 1, by omega, by go_num, ⟨aoA, capA, by rw [HNX.out, ← HHA.out]; exact HS7.out, HK7.out, HNA.out⟩⟩, rfl⟩)
        case measure => simp [intOf] <;> omega
    · obtain rfl : k = N := by omega
      obtain ⟨ao1, cap1, hS, hK, hNw⟩ := hst.out
      have HF := Lib.hid hst.out
      clear hst hS hK hNw
      go_wp2
      go_end0
      exact ⟨rfl, HF.out⟩
end Go.Proofs.YtfpbboldfilhlaaDoor
