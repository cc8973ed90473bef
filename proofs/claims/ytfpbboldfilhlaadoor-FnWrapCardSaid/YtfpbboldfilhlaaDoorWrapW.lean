/-
  The walk of the law FnWrap of the given program. No condition.
-/
import Derived.Test.YtfpbboldfilhlaaDoorWrapI
import Derived.Test.YtfpbboldfilhlaaDoorRowTxt
import Derived.Test.YtfpbboldfilhlaaDoorNewScr2
import Derived.Test.YtfpbboldfilhlaaDoorAt
import Derived.Deep.RegionHeld3
import Derived.Deep.Cut
namespace Go.Proofs.YtfpbboldfilhlaaDoor
open Go.ChangeShapes Go.WideShapes Go.ChangeAt Go.RowKit
set_option linter.unusedVariables false
set_option linter.unusedSimpArgs false
set_option maxRecDepth 100000
/-- the box of the screen that FeedScreen gave, its cells and its history -/
structure WZ (n0 : Nat) (w : World) (p : Nat) (tS : TypeId) (cx : Array Value) (aC : Option Addr) (xs : List Value) (aH : Option Addr) (ys : List Value) (w' : World) : Prop where
  below : Below n0 w w'
  np : n0 ≤ p
  box : w'.heap[p]? = some (.cells cx tS (0, 0))
  c : At w' aC xs
  h : At w' aH ys
theorem WZ.next {n0 p : Nat} {tS : TypeId} {w w' w2 : World} {cx : Array Value} {aC aH : Option Addr} {xs ys : List Value} (h : WZ n0 w p tS cx aC xs aH ys w') (hb : Below w'.heap.size w' w2) : WZ n0 w p tS cx aC xs aH ys w2 :=
  ⟨h.below.trans (hb.mono (Nat.le_trans h.np (Nat.le_of_lt (box_lt h.box)))), h.np, box_below h.box hb (box_lt h.box), h.c.below hb (Nat.le_refl _), h.h.below hb (Nat.le_refl _)⟩
theorem strs_histR {T : List UInt8} {W g i : Nat} (h : i < g) : (strs (histR T W g))[i]? = some (.string (bt (textR T W i))) := by
  rw [strs, List.getElem?_map, histR_get h]; rfl
theorem size_textR (T : List UInt8) (W i : Nat) : (bt (textR T W i)).size ≤ W := by rw [size_bt, textR, List.length_take]; omega
/-- RowText of the screen that FeedScreen gave -/
theorem row_grid {T : List UInt8} {W H g n r x y yy : Nat} (hT : okT T) (hn : T.length = n) (w0 : 2 ≤ W) (w1 : W ≤ 24) (h0 : 2 ≤ H) (h1 : H ≤ 10) (hx : x ≤ W) (hy : y < H) (hg : g ≤ 6) (hyy : yy < H) :
    rowTR (W : Int) (H : Int) (x : Int) (y : Int) 0 0 ((H - 1 : Nat) : Int) 0 0 ⟨#[]⟩ (gridR T W H g n) (histR T W g) (yy : Int) = (bt (textR T W (g + yy)), 0) := by
  have e1 : sizeB (W : Int) (H : Int) = true := by simp [sizeB, inR]; omega
  have e2 : ((gridR T W H g n).all cellB) = true := by rw [List.all_eq_true]; exact gridR_ok hT (by omega)
  have e3 : (((gridR T W H g n).length : Int) == (W : Int) * (H : Int)) = true := by rw [length_gridR]; simp
  have e4 : titleB ⟨#[]⟩ = true := by decide
  have e5 : ((histR T W g).all histB) = true := by rw [List.all_eq_true]; intro t ht; simp [histB]; exact histR_size w1 t ht
  have e6 : scrB (W : Int) (H : Int) (x : Int) (y : Int) 0 0 ((H - 1 : Nat) : Int) 0 0 ⟨#[]⟩ (gridR T W H g n) (histR T W g) = true := by
    simp only [scrB, e1, e2, e3, e4, e5, length_histR, Bool.true_and, Bool.and_true]
    simp [inR]
    omega
  have e7 : inR (yy : Int) 0 ((H : Int) - 1) = true := by simp [inR]; omega
  rw [rowTR, if_pos e6, if_pos e7, Int.toNat_natCast, Int.toNat_natCast, rowTx_full hT hn hyy]
  rfl
/-- 'string([]byte{byte(v)})': the letter -/
theorem letterW (v : Nat) (hv : v < 256) (W : World) (B : Nat) (h : W.heap[B]? = some (.cells #[.int .u8 (v : Int)] 5 (0, 0))) :
    (convert 22 9 (.slice (some ⟨B, 0, none⟩) 1 1)).run Tryd.prog W = .ok (.string (bt [UInt8.ofNat v])) W := by
  have ha : At W (some ⟨B, 0, none⟩) (u8s [UInt8.ofNat v]) := by
    have := at_block h
    rw [show (#[Value.int .u8 (v : Int)] : Array Value).toList = u8s [UInt8.ofNat v] from by simp [u8s]; omega] at this
    exact this
  exact conv_at 22 9 5 1 1 Tryd.underlying22 Tryd.underlying5 Tryd.underlying9 ha rfl
attribute [local irreducible] wpList
set_option maxHeartbeats 8000000 in
theorem walk_FnWrap (w : World) (a : Option Addr) (len cap : Nat) (l : List UInt8) (ha : At w a (u8s l)) (hl : l.length = len) (hs : len ≤ maxLen)
    (a' : Option Addr) (len' cap' : Nat) (l' : List UInt8) (ha' : At w a' (u8s l')) (hl' : l'.length = len') (hs' : len' ≤ maxLen) :
    Calls Tryd.prog 3 #[.slice a len cap, .slice a' len' cap'] w fun e w' => e = .returned (.bool true) ∧ Below w.heap.size w w' := by
  unfold maxLen at hs hs'
  have HL := Lib.hid hl
  have HL' := Lib.hid hl'
  have HA := Lib.hid ha
  have HA' := Lib.hid ha'
  clear hl hl' ha ha'
  by_cases h1 : 1048576 < len
  · go_enter Tryd.func3, Tryd.ntmps3
    go_wp2
    go_ret
    exact ⟨rfl, Below.refl _ _⟩
  have i1 : (len : Int) ≤ 1048576 := by omega
  by_cases h2 : 1048576 < len'
  · go_enter Tryd.func3, Tryd.ntmps3
    go_wp2
    go_ret
    exact ⟨rfl, Below.refl _ _⟩
  have i2 : (len' : Int) ≤ 1048576 := by omega
  obtain ⟨d0, hd0⟩ : ∃ d : Nat, atV l 0 10 = d := ⟨_, rfl⟩
  have qd0 : d0 < 10 := by rw [← hd0]; exact atV_lt l 0 10 (by omega)
  have HTd0 : Hid (∀ X : World, Below w.heap.size w X → Calls Tryd.prog 4 #[.slice a len cap, .int .i64 0, .int .i64 10] X fun e w' => e = .returned (.int .i64 (d0 : Int)) ∧ Below X.heap.size X w') := fun X hB => by
    rw [← hd0]; exact at_any a len cap l X 0 10 (HA.out.below hB (Nat.le_refl _)) HL.out (by omega) (by omega) (by omega)
  clear hd0
  obtain ⟨d1, hd1⟩ : ∃ d : Nat, atV l 1 5 = d := ⟨_, rfl⟩
  have qd1 : d1 < 5 := by rw [← hd1]; exact atV_lt l 1 5 (by omega)
  have HTd1 : Hid (∀ X : World, Below w.heap.size w X → Calls Tryd.prog 4 #[.slice a len cap, .int .i64 1, .int .i64 5] X fun e w' => e = .returned (.int .i64 (d1 : Int)) ∧ Below X.heap.size X w') := fun X hB => by
    rw [← hd1]; exact at_any a len cap l X 1 5 (HA.out.below hB (Nat.le_refl _)) HL.out (by omega) (by omega) (by omega)
  clear hd1
  obtain ⟨W, hW⟩ : ∃ n : Nat, n = 2 + d0 := ⟨_, rfl⟩
  obtain ⟨H, hH⟩ : ∃ n : Nat, n = 2 + d1 := ⟨_, rfl⟩
  obtain ⟨M, hM⟩ : ∃ n : Nat, n = W * (H + 3) := ⟨_, rfl⟩
  have W0 : 2 ≤ W := by omega
  have W1 : W ≤ 11 := by omega
  have H0 : 2 ≤ H := by omega
  have H1 : H ≤ 6 := by omega
  have M1 : M ≤ 99 := by have : W * (H + 3) ≤ 11 * 9 := Nat.mul_le_mul W1 (by omega); omega
  have M0 : 1 ≤ M := by have : 2 * 3 ≤ W * (H + 3) := Nat.mul_le_mul W0 (by omega); omega
  obtain ⟨d2, hd2⟩ : ∃ d : Nat, atV l' 0 M = d := ⟨_, rfl⟩
  have qd2 : d2 < M := by rw [← hd2]; exact atV_lt l' 0 M (by omega)
  have HTd2 : Hid (∀ X : World, Below w.heap.size w X → Calls Tryd.prog 4 #[.slice a' len' cap', .int .i64 0, .int .i64 (M : Int)] X fun e w' => e = .returned (.int .i64 (d2 : Int)) ∧ Below X.heap.size X w') := fun X hB => by
    rw [← hd2]; exact at_any a' len' cap' l' X 0 M (HA'.out.below hB (Nat.le_refl _)) HL'.out (by omega) (by omega) (by omega)
  clear hd2
  obtain ⟨d3, hd3⟩ : ∃ d : Nat, atV l' 1 26 = d := ⟨_, rfl⟩
  have qd3 : d3 < 26 := by rw [← hd3]; exact atV_lt l' 1 26 (by omega)
  have HTd3 : Hid (∀ X : World, Below w.heap.size w X → Calls Tryd.prog 4 #[.slice a' len' cap', .int .i64 1, .int .i64 26] X fun e w' => e = .returned (.int .i64 (d3 : Int)) ∧ Below X.heap.size X w') := fun X hB => by
    rw [← hd3]; exact at_any a' len' cap' l' X 1 26 (HA'.out.below hB (Nat.le_refl _)) HL'.out (by omega) (by omega) (by omega)
  clear hd3
  obtain ⟨n, hn⟩ : ∃ n : Nat, n = 1 + d2 := ⟨_, rfl⟩
  have n0 : 1 ≤ n := by omega
  have n1 : n ≤ M := by omega
  have n9 : n ≤ 99 := by omega
  obtain ⟨N, hN⟩ : ∃ N : Nat, N = W * H := ⟨_, rfl⟩
  have N0 : 4 ≤ N := by have : 2 * 2 ≤ W * H := Nat.mul_le_mul W0 H0; omega
  have N1 : N ≤ 66 := by have : W * H ≤ 11 * 6 := Nat.mul_le_mul W1 H1; omega
  have ew0 : IntKind.i64.wrap (2 + (d0 : Int)) = (W : Int) := by rw [IntKind.wrap_i64] <;> omega
  have ew1 : IntKind.i64.wrap (2 + (d1 : Int)) = (H : Int) := by rw [IntKind.wrap_i64] <;> omega
  have ew2 : IntKind.i64.wrap ((H : Int) + 3) = (H : Int) + 3 := by rw [IntKind.wrap_i64] <;> omega
  have ew3 : IntKind.i64.wrap ((W : Int) * ((H : Int) + 3)) = (M : Int) := by
    have : (W : Int) * ((H : Int) + 3) = (M : Int) := by rw [hM]; simp
    rw [this, IntKind.wrap_i64] <;> omega
  have ew4 : IntKind.i64.wrap (1 + (d2 : Int)) = (n : Int) := by rw [IntKind.wrap_i64] <;> omega
  have HM := Lib.hid hM
  have HN := Lib.hid hN
  have HSZ : Hid (sizeB (W : Int) (H : Int) = true) := by show _ = _; simp [sizeB, inR]; omega
  clear hM hN hW hH hn
  have BB : Below w.heap.size w w := Below.refl _ _
  go_enter Tryd.func3, Tryd.ntmps3
  go_wp2_with fail
  refine (HTd0.out _ BB).mono ?_
  rintro e w1 ⟨rfl, hb⟩
  have hz1 : w.heap.size ≤ w1.heap.size := hb.size
  replace BB : Below w.heap.size w w1 := BB.trans (hb.mono (by omega))
  clear hb
  go_wp2_with fail
  refine (HTd1.out _ BB).mono ?_
  rintro e w2 ⟨rfl, hb⟩
  have hz2 : w.heap.size ≤ w2.heap.size := by have := hb.size; omega
  replace BB : Below w.heap.size w w2 := BB.trans (hb.mono (by omega))
  clear hb hz1
  go_wp2_with fail
  refine (implNewScreen_any (W : Int) (H : Int) N (W : Int) (H : Int) ((H - 1 : Nat) : Int) 0 w2 ?_ ?_ ?_ ?_ ?_).mono ?_
  · rw [newN, HSZ.out, HN.out]; show ((W : Int) * (H : Int)).toNat = _; rw [← Int.natCast_mul, Int.toNat_natCast]
  · rw [newI, HSZ.out]; rfl
  · rw [newI, HSZ.out]; rfl
  · rw [newI, HSZ.out]; show (H : Int) - 1 = _; omega
  · rw [HSZ.out]; rfl
  rintro e w3 ⟨aC, c, aH, d, rfl, hcc, hap, hmc, hmh, hb⟩
  obtain ⟨bC, oC, rfl, hbC, hmc2⟩ := hmc.get (by intro e; have := congrArg List.length e; rw [length_cellsV] at this; simp at this; omega)
  have hat : At w3 (some ⟨bC, oC, none⟩) (cellsV (List.replicate N (32, 0))) := .inr ⟨bC, oC, rfl, fun i hi => (hmc2 i hi).1⟩
  replace BB : Below w.heap.size w w3 := BB.trans (hb.mono (by omega))
  have z30 : w.heap.size ≤ w3.heap.size := by have := hb.size; omega
  have HX : Hid (WX w.heap.size w w3.heap.size 27 #[.int .i64 (W : Int), .int .i64 (H : Int), .int .i64 0, .int .i64 0, .int .i64 0, .int .i64 0, .int .i64 ((H - 1 : Nat) : Int), .int .i64 0, .int .i64 0, .string ⟨#[]⟩, .slice (some ⟨bC, oC, none⟩) N c, .slice aH 0 d] (some ⟨bC, oC, none⟩) (cellsV (List.replicate N (32, 0))) (w3.alloc (.cells #[.int .i64 (W : Int), .int .i64 (H : Int), .int .i64 0, .int .i64 0, .int .i64 0, .int .i64 0, .int .i64 ((H - 1 : Nat) : Int), .int .i64 0, .int .i64 0, .string ⟨#[]⟩, .slice (some ⟨bC, oC, none⟩) N c, .slice aH 0 d] 27))) := ⟨BB.alloc z30 _, z30, box_new w3 _, hat.below ((Below.refl _ _).alloc (Nat.le_refl _) _) (Nat.le_refl _)⟩
  clear hb hap hmc hmh hmc2 hat BB hz2
  go_wp2_with fail
  generalize w3.alloc (.cells #[.int .i64 (W : Int), .int .i64 (H : Int), .int .i64 0, .int .i64 0, .int .i64 0, .int .i64 0, .int .i64 ((H - 1 : Nat) : Int), .int .i64 0, .int .i64 0, .string ⟨#[]⟩, .slice (some ⟨bC, oC, none⟩) N c, .slice aH 0 d] 27) = w4 at *
  generalize w3.heap.size = z3 at *
  refine (HTd2.out _ HX.out.below).mono ?_
  rintro e w5 ⟨rfl, hb⟩
  replace HX := Lib.hid (HX.out.next hb)
  clear hb
  go_wp2_with fail
  go_loopw [10, 11] (fun tx i wr => ∃ k : Nat, k ≤ n ∧ i = .int .i64 k ∧ tx = .string (bt (wrapL d3 k)) ∧ Hid (WX w.heap.size w z3 27 #[.int .i64 (W : Int), .int .i64 (H : Int), .int .i64 0, .int .i64 0, .int .i64 0, .int .i64 0, .int .i64 ((H - 1 : Nat) : Int), .int .i64 0, .int .i64 0, .string ⟨#[]⟩, .slice (some ⟨bC, oC, none⟩) N c, .slice aH 0 d] (some ⟨bC, oC, none⟩) (cellsV (List.replicate N (32, 0))) wr)) (fun _ i _ => n - (intOf i).toNat)
  case atStart => exact ⟨0, Nat.zero_le _, rfl, rfl, HX⟩
  obtain ⟨k, hk, rfl, rfl, HX1⟩ := hrel
  clear HX
  rename World => wr
  by_cases hkn : k < n
  · have hkn' : (k : Int) < (n : Int) := by omega
    go_wp2_with fail
    refine (HTd3.out _ HX1.out.below).mono ?_
    rintro e w6 ⟨rfl, hb⟩
    have HX2 := Lib.hid (HX1.out.next hb)
    clear hb HX1
    obtain ⟨s, hs1⟩ : ∃ s : Nat, s = k + d3 := ⟨_, rfl⟩
    obtain ⟨b, hb1⟩ : ∃ b : Nat, b = s % 26 := ⟨_, rfl⟩
    obtain ⟨v, hv1⟩ : ∃ v : Nat, v = 97 + b := ⟨_, rfl⟩
    have b26 : b < 26 := by omega
    have f1 : IntKind.i64.wrap ((k : Int) + (d3 : Int)) = (s : Int) := by rw [IntKind.wrap_i64] <;> omega
    have f2 : (s : Int).tmod 26 = (b : Int) := by rw [Int.tmod_eq_emod_of_nonneg (by omega)]; omega
    have f2' : (s : Int) % 26 = (b : Int) := by omega
    have f3 : IntKind.i64.wrap (b : Int) = (b : Int) := by rw [IntKind.wrap_i64] <;> omega
    have f4 : IntKind.i64.wrap (97 + (b : Int)) = (v : Int) := by rw [IntKind.wrap_i64] <;> omega
    have f5 : IntKind.u8.wrap (v : Int) = (v : Int) := by simp [IntKind.wrap, IntKind.bits, IntKind.signed]; omega
    have c0 := letterW v (by omega) (w6.alloc (.cells #[.int .u8 (v : Int)] 5)) w6.heap.size (heap_alloc_new w6 _)
    have HXB : Hid (bt (wrapL d3 k) ++ bt [UInt8.ofNat v] = bt (wrapL d3 (k + 1))) := by
      rw [show UInt8.ofNat v = wrapB d3 k from by rw [wrapB, hv1, hb1, hs1]]; exact bt_wrap d3 k
    have g1 : (bt (wrapL d3 k)).size ≤ 99 := by rw [size_bt, length_wrapL]; omega
    have g2 : (bt [UInt8.ofNat v]).size = 1 := rfl
    generalize bt [UInt8.ofNat v] = xb at *
    have HX3 := Lib.hid (HX2.out.alloc (.cells #[.int .u8 (v : Int)] 5))
    clear hs1 hb1 hv1 HX2
    go_wp2
    go_roundw
    case rel => exact ⟨k + 1, by omega, by go_num, by rw [HXB.out], HX3⟩
    case measure => simp [intOf]; omega
  obtain rfl : n = k := by omega
  clear hk hkn
  obtain ⟨T, hT⟩ : ∃ T, T = bt (wrapL d3 n) := ⟨_, rfl⟩
  rw [← hT]
  have hTL : T.data.toList = wrapL d3 n := by rw [hT, toList_bt]
  have HTE := Lib.hid hT
  have HOK : Hid (okT T.data.toList) := by show okT _; rw [hTL]; exact wrapL_ok _ _
  have HSZT : Hid (T.size = n) := by show _ = _; rw [hT, size_bt, length_wrapL]
  have HNT : Hid (T.data.toList.length ≤ W * (H + 3)) := by show _ ≤ _; rw [hTL, length_wrapL, ← HM.out]; exact n1
  have HXG : Hid (WX w.heap.size w z3 27 #[.int .i64 (W : Int), .int .i64 (H : Int), .int .i64 0, .int .i64 0, .int .i64 0, .int .i64 0, .int .i64 ((H - 1 : Nat) : Int), .int .i64 0, .int .i64 0, .string ⟨#[]⟩, .slice (some ⟨bC, oC, none⟩) N c, .slice aH 0 d] (some ⟨bC, oC, none⟩) (cellsV (gridR T.data.toList W H 0 0)) wr) := by
    have e : cellsV (gridR T.data.toList W H 0 0) = cellsV (List.replicate N (32, 0)) := by rw [gridR_first, HN.out]; rfl
    rw [e]; exact HX1.out
  have lz : z3 < wr.heap.size := box_lt HX1.out.box
  have x3 := HX1.out.S
  obtain ⟨cp, ob, hcv, HMV⟩ := bytes_conv (P := Tryd.prog) 9 22 5 T n HSZT.out Tryd.underlying9 Tryd.underlying22 Tryd.underlying5
  have zr : w.heap.size ≤ wr.heap.size := by omega
  clear hT hTL HX1 HL HL' HA HA' HTd0 HTd1 HTd2 HTd3 ew0 ew1 ew2 ew3 ew4 qd0 qd1 qd2 qd3 M0 M1 hcc hbC i1 i2 h1 h2 hs hs'
  generalize (Value.tuple #[Value.agg #[.int .i64 (W : Int), .int .i64 (H : Int), .int .i64 0, .int .i64 0, .int .i64 0, .int .i64 0, .int .i64 ((H - 1 : Nat) : Int), .int .i64 0, .int .i64 0, .string ⟨#[]⟩, .slice (some ⟨bC, oC, none⟩) N c, .slice aH 0 d], Value.int .i64 0]) = vt
  generalize (Value.agg #[.int .i64 (W : Int), .int .i64 (H : Int), .int .i64 0, .int .i64 0, .int .i64 0, .int .i64 0, .int .i64 ((H - 1 : Nat) : Int), .int .i64 0, .int .i64 0, .string ⟨#[]⟩, .slice (some ⟨bC, oC, none⟩) N c, .slice aH 0 d]) = va
  go_upto_region 12 with fail
  go_cut [12, 13, 14] from 65 to 73 (fun v12 v13 v14 wx => ∃ p q, v12 = .pointer (some ⟨p, 0, none⟩) ∧ v13 = .pointer (some ⟨q, 0, none⟩) ∧ v14 = .int .i64 0 ∧ Hid (RY w.heap.size 27 w T.data.toList W H N n p wx))
  case first =>
    rename_i J K' hJ hM
    refine region12_any (w := w) (z3 := z3) (W := W) (H := H) (N := N) (n := n) (bC := bC) (oC := oC) (c := c) (d := d) (aH := aH) T ⟨rfl, by kernel_rfl, ⟨⟨_, rfl, rfl, rfl, rfl, by kernel_rfl⟩⟩, ⟨⟨_, rfl, rfl, rfl, rfl, by kernel_rfl⟩⟩, ⟨⟨_, rfl, rfl, rfl, rfl, by kernel_rfl⟩⟩, ⟨⟨_, rfl, rfl, rfl, rfl, by kernel_rfl⟩⟩, ⟨⟨_, rfl, rfl, rfl, rfl, by kernel_rfl⟩⟩, ⟨⟨_, rfl, rfl, rfl, rfl, by kernel_rfl⟩⟩, ⟨⟨_, rfl, rfl, rfl, rfl, by kernel_rfl⟩⟩, ⟨⟨_, rfl, rfl, rfl, rfl, by kernel_rfl⟩⟩, ⟨⟨_, rfl, rfl, rfl, rfl, by kernel_rfl⟩⟩, ⟨⟨_, rfl, rfl, rfl, rfl, by kernel_rfl⟩⟩, ⟨⟨_, rfl, rfl, rfl, rfl, by kernel_rfl⟩⟩, ⟨⟨_, rfl, rfl, rfl, rfl, by kernel_rfl⟩⟩, ⟨⟨_, rfl, rfl, rfl, rfl, by kernel_rfl⟩⟩, ⟨⟨_, rfl, rfl, rfl, rfl, by kernel_rfl⟩⟩⟩ rfl rfl rfl HXG.out HOK.out W0 (by omega) H0 (by omega) HNT.out HSZT.out HN.out.symm ?_
    intro a w' p q hz hd hfr h12 h13 h14 hRY
    show K' a w'
    refine hM _ _ (Met.intro (hJ _ _ ?_))
    exact ⟨a.eval (.tmp 12), a.eval (.tmp 13), a.eval (.tmp 14), a.eval (.tmp 65), a.eval (.tmp 66), a.eval (.tmp 67), a.eval (.tmp 68), a.eval (.tmp 69), a.eval (.tmp 70), a.eval (.tmp 71), a.eval (.tmp 72), a.eval (.tmp 73), ⟨p, q, h12, h13, h14, hRY⟩, (act_of hz rfl hd hfr).trans (by kernel_rfl)⟩
  obtain ⟨p, q, rfl, rfl, rfl, HR⟩ := hcut
  clear x3 lz HMV hcv HXG zr z30
  rename World => wx
  obtain ⟨r, x, g, y, gC, oC', capC, ao, capS, hput, hgy, hyH, hg, hcc, hbx, hAC, hAH, hB, hpn⟩ := HR.out
  clear HR
  have hTl : T.data.toList.length = n := by rw [size_list]; exact HSZT.out
  have hr : r < H + 3 := put_le hput (by rw [← HM.out]; exact n1) n0
  have hrw := put_rows hput n0 (by omega)
  obtain ⟨R, hR⟩ : ∃ R : Nat, R = r + 1 := ⟨_, rfl⟩
  obtain ⟨s, hs⟩ : ∃ s : Nat, s = n + W := ⟨_, rfl⟩
  obtain ⟨s1, hs1⟩ : ∃ s1 : Nat, s1 = n + W - 1 := ⟨_, rfl⟩
  rw [← hs1, ← hR] at hrw
  have hrX : r * W + x = n := hput.eq.symm
  obtain ⟨u, hu⟩ : ∃ u : Nat, u = r * W := ⟨_, rfl⟩
  have f1 : IntKind.i64.wrap ((n : Int) + (W : Int)) = (s : Int) := by rw [IntKind.wrap_i64] <;> omega
  have f2 : IntKind.i64.wrap ((s : Int) - 1) = (s1 : Int) := by rw [IntKind.wrap_i64] <;> omega
  have f3 : (s1 : Int).tdiv (W : Int) = (R : Int) := by rw [Int.tdiv_eq_ediv_of_nonneg (by omega), ← Int.natCast_ediv, hrw]
  have f3' : (s1 : Int) / (W : Int) = (R : Int) := by rw [← Int.natCast_ediv, hrw]
  have f4 : IntKind.i64.wrap (R : Int) = (R : Int) := by rw [IntKind.wrap_i64] <;> omega
  have f5 : IntKind.i64.wrap ((R : Int) - (H : Int)) = (R : Int) - (H : Int) := by rw [IntKind.wrap_i64] <;> omega
  have f6 : ((W : Int) == 0) = false := by simp; omega
  have f7 : IntKind.i64.wrap ((H : Int) - 1) = ((H - 1 : Nat) : Int) := by rw [IntKind.wrap_i64] <;> omega
  have f8 : IntKind.i64.wrap ((R : Int) - 1) = (r : Int) := by rw [IntKind.wrap_i64] <;> omega
  have f9 : IntKind.i64.wrap ((r : Int) * (W : Int)) = (u : Int) := by
    have : (r : Int) * (W : Int) = (u : Int) := by rw [hu]; simp
    rw [this, IntKind.wrap_i64]; omega
  have f10 : IntKind.i64.wrap ((n : Int) - (u : Int)) = (x : Int) := by rw [IntKind.wrap_i64] <;> omega
  have f11 : max (0 : Int) ((R : Int) - (H : Int)) = (g : Int) := by omega
  have f12 : min ((H - 1 : Nat) : Int) (r : Int) = (y : Int) := by omega
  have hg6 : g ≤ 6 := by omega
  have hW0 : ¬ (W : Int) = 0 := by omega
  have HZ : Hid (WZ w.heap.size w p 27 #[.int .i64 (W : Int), .int .i64 (H : Int), .int .i64 (x : Int), .int .i64 (y : Int), .int .i64 0, .int .i64 0, .int .i64 ((H - 1 : Nat) : Int), .int .i64 0, .int .i64 0, .string ⟨#[]⟩, .slice (some ⟨gC, oC', none⟩) N capC, .slice ao g capS] (some ⟨gC, oC', none⟩) (cellsV (gridR T.data.toList W H g n)) ao (strs (histR T.data.toList W g)) wx) := ⟨hB, hpn, hbx, hAC, hAH⟩
  have HTK : Hid (T.data.toList.take ((g + H) * W) = T.data.toList) := take_all hput hTl (by omega)
  have HTl := Lib.hid hTl
  have hxW : x ≤ W := hput.x1
  have xp := box_cells hbx
  have HAH := Lib.hid hAH
  clear hput hrw hs hs1 hu hB hbx hAC hAH hTl hrX hr hR hg hgy
  go_wp2_with fail
  go_loopw [17, 18] (fun tx i wq => wq = wx ∧ ∃ k : Nat, k ≤ g ∧ i = .int .i64 k ∧ tx = .string (bt (T.data.toList.take (k * W)))) (fun _ i _ => g - (intOf i).toNat)
  case atStart => exact ⟨rfl, 0, Nat.zero_le _, rfl, by rw [Nat.zero_mul]; rfl⟩
  obtain ⟨rfl, k, hk, rfl, rfl⟩ := hrel
  by_cases hkg : k < g
  · have hkg' : (k : Int) < (g : Int) := by omega
    have hk0 : (0 : Int) ≤ (k : Int) := by omega
    obtain ⟨b, o, rfl, hc⟩ := HAH.out.get (by intro e; have := congrArg List.length e; simp [strs, length_histR] at this; omega)
    have hlen : k < (strs (histR T.data.toList W g)).length := by simp [strs, length_histR]; exact hkg
    have hck := hc k hlen
    have he : (strs (histR T.data.toList W g))[k] = .string (bt (textR T.data.toList W k)) := by
      have := strs_histR (T := T.data.toList) (W := W) hkg
      rw [List.getElem?_eq_getElem hlen] at this
      exact Option.some.inj this
    rw [he] at hck
    clear he
    have HCK := Lib.hid hck
    have HXB : Hid (bt (T.data.toList.take (k * W)) ++ bt (textR T.data.toList W k) = bt (T.data.toList.take ((k + 1) * W))) := bt_row _ _ _
    have g1 : (bt (T.data.toList.take (k * W))).size ≤ 99 := by rw [size_bt, List.length_take, HTl.out]; omega
    have g2 : (bt (textR T.data.toList W k)).size ≤ 99 := by have := size_textR T.data.toList W k; omega
    generalize bt (textR T.data.toList W k) = xb at *
    generalize bt (T.data.toList.take (k * W)) = xa at *
    clear hc hlen
    go_wp2
    go_roundw
    case rel => exact ⟨by first | trivial | rfl, k + 1, by omega, by go_num, by rw [HXB.out]⟩
    case measure => simp [intOf]; omega
  obtain rfl : g = k := by omega
  clear hk hkg xp
  go_wp2_with fail
  go_loopw [17, 19] (fun tx i wq => ∃ k : Nat, k ≤ H ∧ i = .int .i64 k ∧ tx = .string (bt (T.data.toList.take ((g + k) * W))) ∧ Hid (WZ w.heap.size w p 27 #[.int .i64 (W : Int), .int .i64 (H : Int), .int .i64 (x : Int), .int .i64 (y : Int), .int .i64 0, .int .i64 0, .int .i64 ((H - 1 : Nat) : Int), .int .i64 0, .int .i64 0, .string ⟨#[]⟩, .slice (some ⟨gC, oC', none⟩) N capC, .slice ao g capS] (some ⟨gC, oC', none⟩) (cellsV (gridR T.data.toList W H g n)) ao (strs (histR T.data.toList W g)) wq)) (fun _ i _ => H - (intOf i).toNat)
  case atStart => exact ⟨0, Nat.zero_le _, rfl, rfl, HZ⟩
  obtain ⟨k, hk, rfl, rfl, HZ1⟩ := hrel
  clear HZ HAH
  rename World => wq
  have xq := box_cells HZ1.out.box
  by_cases hkh : k < H
  · have hkh' : (k : Int) < (H : Int) := by omega
    have HXB : Hid (bt (T.data.toList.take ((g + k) * W)) ++ bt (textR T.data.toList W (g + k)) = bt (T.data.toList.take ((g + (k + 1)) * W))) := bt_row _ _ _
    have g1 : (bt (T.data.toList.take ((g + k) * W))).size ≤ 99 := by rw [size_bt, List.length_take, HTl.out]; omega
    have g2 : (bt (textR T.data.toList W (g + k))).size ≤ 99 := by have := size_textR T.data.toList W (g + k); omega
    have HROW : Hid (rowTR (W : Int) (H : Int) (x : Int) (y : Int) 0 0 ((H - 1 : Nat) : Int) 0 0 ⟨#[]⟩ (gridR T.data.toList W H g n) (histR T.data.toList W g) (k : Int) = (bt (textR T.data.toList W (g + k)), 0)) := row_grid (r := r) HOK.out HTl.out W0 (by omega) H0 (by omega) hxW hyH hg6 hkh
    generalize bt (textR T.data.toList W (g + k)) = xb at *
    generalize bt (T.data.toList.take ((g + k) * W)) = xa at *
    go_wp2_with fail
    refine (implRowText_any (W : Int) (H : Int) (x : Int) (y : Int) 0 0 ((H - 1 : Nat) : Int) 0 0 ⟨#[]⟩ (some ⟨gC, oC', none⟩) N capC (gridR T.data.toList W H g n) ao g capS (histR T.data.toList W g) (k : Int) xb 0 _ (by decide) HZ1.out.c (by rw [length_gridR, HN.out]) (by unfold maxLen; omega) HZ1.out.h (length_histR _ _ _) (by unfold maxLen; omega) (fun s hs => Nat.le_trans (histR_size (by omega) s hs) (by decide)) hcc HROW.out).mono ?_
    rintro e w6 ⟨rfl, hb⟩
    have HZ2 := Lib.hid (HZ1.out.next hb)
    clear hb HZ1 xq
    go_wp2
    go_roundw
    case rel => exact ⟨k + 1, by omega, by go_num, by rw [HXB.out], HZ2⟩
    case measure => simp [intOf]; omega
  obtain rfl : H = k := by omega
  rw [HTK.out, show bt T.data.toList = T from rfl]
  clear hk hkh
  go_wp2
  go_ret
  exact ⟨rfl, HZ1.out.below⟩
end Go.Proofs.YtfpbboldfilhlaaDoor
