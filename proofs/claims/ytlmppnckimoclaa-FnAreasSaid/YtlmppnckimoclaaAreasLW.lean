/-
  The walk of the law FnAreas of the given program. No condition.
-/
import Derived.Test.YtlmppnckimoclaaSeen
import Derived.Test.YtlmppnckimoclaaLayMk
import Derived.Test.YtlmppnckimoclaaAreasR
import Derived.Test.YtlmppnckimoclaaAt
import Derived.Test.YtlmppnckimoclaaLayOKI
import Derived.Deep.RegionHeld3
import Derived.BigQuiet
import Derived.Deep.DeepBigQuietO
namespace Go.Proofs.Ytlmppnckimoclaa
open Go.ChangeShapes Go.WideShapes Go.ChangeAt Go.RowKit
set_option linter.unusedVariables false
set_option linter.unusedSimpArgs false
set_option maxRecDepth 100000
attribute [local irreducible] wpList
theorem At.at {w : World} {ao : Option Addr} {xs : List Value} (h : At w ao xs) : At w ao xs := h
theorem cell_keep {w w' : World} (hb : Below w.heap.size w w') {a : Addr} {v : Value} (h : w.cell? a = some v) : w'.cell? a = some v := (hb.cell (World.block_lt_of_cell? w _ h)).trans h
set_option maxHeartbeats 8000000 in
theorem walk_FnAreas (w : World) (a : Option Addr) (len cap : Nat) (l : List UInt8) (ha : At w a (u8s l)) (hl : l.length = len) (hs : len ≤ maxLen)
    (a' : Option Addr) (len' cap' : Nat) (l' : List UInt8) (ha' : At w a' (u8s l')) (hl' : l'.length = len') (hs' : len' ≤ maxLen) :
    Calls Try.prog 4 #[.slice a len cap, .slice a' len' cap'] w fun e w' => e = .returned (.bool true) ∧ Below w.heap.size w w' := by
  unfold maxLen at hs hs'
  have HL := Lib.hid hl
  have HL' := Lib.hid hl'
  have HA := Lib.hid ha
  have HA' := Lib.hid ha'
  clear hl hl' ha ha'
  by_cases h1 : 1048576 < len
  · go_enter Try.func4, Try.ntmps4
    go_wp2
    go_ret
    exact ⟨rfl, Below.refl _ _⟩
  have i1 : (len : Int) ≤ 1048576 := by omega
  by_cases h2 : 1048576 < len'
  · go_enter Try.func4, Try.ntmps4
    go_wp2
    go_ret
    exact ⟨rfl, Below.refl _ _⟩
  have i2 : (len' : Int) ≤ 1048576 := by omega
  obtain ⟨d0, hd0⟩ : ∃ d : Nat, atV l' 0 21 = d := ⟨_, rfl⟩
  have qd0 : d0 < 21 := by rw [← hd0]; exact atV_lt l' 0 21 (by omega)
  have HTd0 : Hid (∀ W : World, Below w.heap.size w W → Calls Try.prog 5 #[.slice a' len' cap', .int .i64 0, .int .i64 21] W fun e w' => e = .returned (.int .i64 (d0 : Int)) ∧ Below W.heap.size W w') := fun W hB => by
    rw [← hd0]; exact at_any a' len' cap' l' W 0 21 (HA'.out.below hB (Nat.le_refl _)) HL'.out (by omega) (by omega) (by omega)
  clear hd0
  obtain ⟨d1, hd1⟩ : ∃ d : Nat, atV l' 1 7 = d := ⟨_, rfl⟩
  have qd1 : d1 < 7 := by rw [← hd1]; exact atV_lt l' 1 7 (by omega)
  have HTd1 : Hid (∀ W : World, Below w.heap.size w W → Calls Try.prog 5 #[.slice a' len' cap', .int .i64 1, .int .i64 7] W fun e w' => e = .returned (.int .i64 (d1 : Int)) ∧ Below W.heap.size W w') := fun W hB => by
    rw [← hd1]; exact at_any a' len' cap' l' W 1 7 (HA'.out.below hB (Nat.le_refl _)) HL'.out (by omega) (by omega) (by omega)
  clear hd1
  obtain ⟨wn, hwn⟩ : ∃ n : Nat, n = 4 + d0 := ⟨_, rfl⟩
  obtain ⟨hn, hhn⟩ : ∃ n : Nat, n = 4 + d1 := ⟨_, rfl⟩
  have ew0 : IntKind.i64.wrap (4 + (d0 : Int)) = (wn : Int) := by rw [IntKind.wrap_i64] <;> omega
  have ew1 : IntKind.i64.wrap (4 + (d1 : Int)) = (hn : Int) := by rw [IntKind.wrap_i64] <;> omega
  have b1 : 4 ≤ wn := by omega
  have b2 : wn ≤ 24 := by omega
  have b3 : 4 ≤ hn := by omega
  have b4 : hn ≤ 10 := by omega
  clear hwn hhn
  go_enter Try.func4, Try.ntmps4
  have BB : Below w.heap.size w w := Below.refl _ _
  go_wp2_with fail
  refine (HTd0.out _ BB).mono ?_
  rintro e w1 ⟨rfl, hb⟩
  have hz1 : w.heap.size ≤ w1.heap.size := hb.size
  replace BB : Below w.heap.size w w1 := BB.trans (hb.mono (by omega))
  clear hb
  go_wp2_with fail
  refine (HTd1.out _ BB).mono ?_
  rintro e w2 ⟨rfl, hb⟩
  have hz2 : w1.heap.size ≤ w2.heap.size := hb.size
  replace BB : Below w.heap.size w w2 := BB.trans (hb.mono (by omega))
  clear hb
  have hc0 := BB.size
  go_wp2_with fail
  refine (mkLayout_any _ a len cap l (HA.out.below BB (Nat.le_refl _)) HL.out (by omega) (wn : Int) (hn : Int) (by omega) (by omega) (by omega) (by omega)).mono ?_
  rintro e w3 ⟨a_L, n_L, c_L, ps, t, rfl, hm, hM, hb⟩
  have hz3 : w2.heap.size ≤ w3.heap.size := hb.size
  replace BB : Below w.heap.size w w3 := BB.trans (hb.mono (by omega))
  clear hb
  clear hc0
  have s_L := Sl.of hM
  clear hM
  have HM := Lib.hid hm
  have hy6 := hm.y.len
  have hnL := hm.len
  have hln : n_L ≤ 11 := by omega
  have hln1 : 1 ≤ n_L := by omega
  clear hm hnL hy6
  have hA : Below w3.heap.size w3 (w3.alloc (.cells #[.slice a_L n_L c_L] 26)) := (Below.refl _ _).alloc (Nat.le_refl _) _
  have X_L := Lib.hid (box_new w3 (.cells #[.slice a_L n_L c_L] 26))
  have x_L := box_cells X_L.out
  replace s_L := s_L.below hA (by omega)
  replace BB := BB.trans (hA.mono (by omega))
  clear hA
  obtain ⟨rA, hrA⟩ : ∃ r, r = t.areas 0 0 (wn : Int) (hn : Int) := ⟨_, rfl⟩
  obtain ⟨nA, hnA⟩ : ∃ n, rA.length = n := ⟨_, rfl⟩
  have hlv := HM.out.y.lv
  have hnl : nA = t.leaves := by rw [← hnA, hrA, Tr.length_areas]
  have hnA6 : nA ≤ 6 := by omega
  have HRA : Hid (AreasR ps (wn : Int) (hn : Int) rA 0) := .inr ⟨t, HM.out.y, hrA, rfl⟩
  have HIN : Hid (∀ (k : Nat) (q : AreaV), rA[k]? = some q → ∃ ax ay aw ah : Nat, q.x = ax ∧ q.y = ay ∧ q.w = aw ∧ q.h = ah ∧ 2 ≤ aw ∧ 2 ≤ ah ∧ ax + aw ≤ wn ∧ ay + ah ≤ hn) := fun k q hq => by
    obtain ⟨z1, z2, z3, z4, z5, z6⟩ := Tr.areas_in t 0 0 (wn : Int) (hn : Int) HM.out.y.ft q (by rw [← hrA]; exact List.mem_of_getElem? hq)
    exact ⟨q.x.toNat, q.y.toNat, q.w.toNat, q.h.toNat, by omega, by omega, by omega, by omega, by omega, by omega, by omega, by omega⟩
  have HALL : Hid (∀ j, j < wn * hn → cnt rA wn j = 1) := fun j hj => by rw [hrA]; exact cnt_all t wn hn HM.out.y.ft j hj
  have HnA := Lib.hid hnA
  clear hrA hnA hlv hnl
  go_wp2_with fail
  generalize hv : w3.alloc (.cells #[.slice a_L n_L c_L] 26) = v0 at *
  have hs_v0 : v0.heap.size = w3.heap.size + 1 := by rw [← hv]; simp
  clear hv
  refine (implAreasR_any a_L n_L c_L ps _ _ nA rA 0 _ s_L.at HM.out.len HM.out.cap (by omega) HRA.out HnA.out).mono ?_
  rintro e w4 ⟨a_G, c_G, rfl, hM, hb⟩
  have hz4 : v0.heap.size ≤ w4.heap.size := hb.size
  replace X_L := Lib.hid (box_below X_L.out hb (by omega))
  replace x_L := box_cells X_L.out
  replace s_L := s_L.below hb (by omega)
  replace BB : Below w.heap.size w w4 := BB.trans (hb.mono (by omega))
  clear hb
  have s_G := Sl.of hM
  clear hM
  have hc0 := BB.size
  go_wp2_with fail
  refine (specAreasR_any a_L n_L c_L ps _ _ nA rA 0 _ s_L.at HM.out.len HM.out.cap (by omega) HRA.out HnA.out).mono ?_
  rintro e w5 ⟨a_A, c_A, rfl, hM, hb⟩
  have hz5 : w4.heap.size ≤ w5.heap.size := hb.size
  replace X_L := Lib.hid (box_below X_L.out hb (by omega))
  replace x_L := box_cells X_L.out
  replace s_L := s_L.below hb (by omega)
  replace s_G := s_G.below hb (by omega)
  replace BB : Below w.heap.size w w5 := BB.trans (hb.mono (by omega))
  clear hb
  clear hc0
  have s_A := Sl.of hM
  clear hM
  go_wp2_with fail
  refine (implLayOK_any a_L n_L c_L ps HM.out.len (by omega) HM.out.cap (wn : Int) (hn : Int) _ s_L.at).mono ?_
  rintro e w6 ⟨rfl, hb⟩
  have hz6 : w5.heap.size ≤ w6.heap.size := hb.size
  replace X_L := Lib.hid (box_below X_L.out hb (by omega))
  replace x_L := box_cells X_L.out
  replace s_L := s_L.below hb (by omega)
  replace s_G := s_G.below hb (by omega)
  replace s_A := s_A.below hb (by omega)
  replace BB : Below w.heap.size w w6 := BB.trans (hb.mono (by omega))
  clear hb
  rw [okL_true HM.out.y]
  obtain ⟨sz, hsz⟩ : ∃ n : Nat, n = wn * hn := ⟨_, rfl⟩
  have hs1 : sz ≤ 240 := by rw [hsz]; exact Nat.mul_le_mul b2 b4
  have hs2 : 16 ≤ sz := by rw [hsz]; exact Nat.mul_le_mul b1 b3
  have esz : IntKind.i64.wrap ((wn : Int) * (hn : Int)) = (sz : Int) := by rw [← Int.natCast_mul, ← hsz, IntKind.wrap_i64] <;> omega
  have HSZ := Lib.hid hsz
  clear hsz
  have dA6 : decide ((6 : Int) < (nA : Int)) = false := by simp; omega
  obtain ⟨i0, hi, hz0, hz1, hz2⟩ := info_parts Try.info_i64
  have hfit : sz ≤ maxLen := by unfold maxLen; omega
  go_wp2_with (at_make; refine wpList_make_full _ rfl _ _ 38 rfl w6.heap.size 3 i0 (Value.int .i64 0) 1 Try.underlying38 hi hz0 hz1 .i64 .i64 _ _ sz rfl rfl rfl rfl (by rw [hz2]; omega) hfit (Nat.le_refl _) ?_; intro wS hown0 hgrow0)
  have HS0 : Hid (Seen w6.heap.size sz (cnt (rA.take 0) wn) w6 wS) := by
    refine (Seen.of (sz := sz) ?_ (by omega) ((Below.refl _ _).grown hgrow0 (Nat.le_refl _) (fun _ h => by cases h))).congr (fun j => rfl)
    have := own_at hown0
    rwa [show (madeCells (Value.cells (Value.int .i64 0)) (sz * 1)).toList = List.replicate sz (Value.int .i64 0) from by rw [Nat.mul_one]; exact made_one _ sz] at this
  clear hown0 hgrow0 hi hz0 hz1 hz2
  go_wp2_with fail
  go_loopw [13] (fun i wr => ∃ k : Nat, k ≤ nA ∧ i = .int .i64 k ∧ Hid (Seen w6.heap.size sz (cnt (rA.take k) wn) w6 wr)) (fun i _ => nA - (intOf i).toNat)
  case atStart => exact ⟨0, Nat.zero_le _, rfl, HS0⟩
  case round =>
    obtain ⟨k, hk, rfl, hS⟩ := hrel
    clear HS0
    have hbel := hS.out.b
    by_cases hkt : k < nA
    · obtain ⟨q, hq⟩ : ∃ q, rA[k]? = some q := ⟨rA[k]'(by rw [HnA.out]; exact hkt), List.getElem?_eq_getElem _⟩
      obtain ⟨ax, ay, aw, ah, qx, qy, qw, qh, n1, n2, n3, n4⟩ := HIN.out k q hq
      obtain ⟨bG, oG, rfl, g0, g1, g2, g3, g4⟩ := (s_G.at.below hbel (Nat.le_refl _)).area hq
      obtain ⟨bA, oA, rfl, h0, h1', h2', h3', h4'⟩ := (s_A.at.below hbel (Nat.le_refl _)).area hq
      have HNX : Hid (∀ j, cntY (rA.take k) wn ax ay aw (ay + ah) j = cnt (rA.take (k + 1)) wn j) := fun j => by rw [cnt_next _ q wn ax ay aw ah qx qy qw qh, List.take_add_one, hq]; rfl
      rw [qx] at g1 h1'
      rw [qy] at g2 h2'
      rw [qw] at g3 h3'
      rw [qh] at g4 h4'
      generalize q.pane = pn at *
      clear hq qx qy qw qh
      have i1 : (0 : Int) ≤ (k : Int) := by omega
      have i2 : (k : Int) < (nA : Int) := by omega
      have t1 : decide ((aw : Int) < 2) = false := by simp; omega
      have t2 : decide ((ah : Int) < 2) = false := by simp; omega
      have t3 : decide ((ax : Int) < 0) = false := by simp
      have t4 : decide ((ay : Int) < 0) = false := by simp
      obtain ⟨ex, e1, e2⟩ : ∃ n : Nat, n ≤ ax + aw ∧ ax + aw ≤ n := ⟨_, Nat.le_refl _, Nat.le_refl _⟩
      obtain ⟨ey, e3, e4⟩ : ∃ n : Nat, n ≤ ay + ah ∧ ay + ah ≤ n := ⟨_, Nat.le_refl _, Nat.le_refl _⟩
      have t5 : IntKind.i64.wrap ((ax : Int) + (aw : Int)) = (ex : Int) := by rw [IntKind.wrap_i64] <;> omega
      have t6 : IntKind.i64.wrap ((ay : Int) + (ah : Int)) = (ey : Int) := by rw [IntKind.wrap_i64] <;> omega
      have t7 : decide ((wn : Int) < (ex : Int)) = false := by simp; omega
      have t9 : ¬ ((wn : Int) < (ex : Int)) := by omega
      have t10 : ¬ ((hn : Int) < (ey : Int)) := by omega
      have t11 : ¬ (wn < ex) := by omega
      have t12 : ¬ (hn < ey) := by omega
      have t8 : decide ((hn : Int) < (ey : Int)) = false := by simp; omega
      go_wp2_with fail
      have X0 := box_new wr (.cells #[.int .i64 pn, .int .i64 (ax : Int), .int .i64 (ay : Int), .int .i64 (aw : Int), .int .i64 (ah : Int)] 32)
      have S0 := Lib.hid (hS.out.alloc (.cells #[.int .i64 pn, .int .i64 (ax : Int), .int .i64 (ay : Int), .int .i64 (aw : Int), .int .i64 (ah : Int)] 32))
      have hab := hS.out.lt
      have hbW : Below wr.heap.size wr (wr.alloc (.cells #[.int .i64 pn, .int .i64 (ax : Int), .int .i64 (ay : Int), .int .i64 (aw : Int), .int .i64 (ah : Int)] 32)) := (Below.refl _ _).alloc (Nat.le_refl _) _
      replace h0 := cell_keep hbW h0
      replace h1' := cell_keep hbW h1'
      replace h2' := cell_keep hbW h2'
      replace h3' := cell_keep hbW h3'
      replace h4' := cell_keep hbW h4'
      clear g0 g1 g2 g3 g4 hbW
      generalize hW : wr.alloc (.cells #[.int .i64 pn, .int .i64 (ax : Int), .int .i64 (ay : Int), .int .i64 (aw : Int), .int .i64 (ah : Int)] 32) = W1 at *
      clear hW
      generalize hab' : wr.heap.size = ab at *
      clear hab'
      have HX0 := Lib.hid X0
      have x0 := box_cells X0
      clear X0
      go_quiet (fail)
      clear h0 h1' h2' h3' h4'
      go_wp2_with fail
      go_loopw [15] (fun i wr2 => ∃ y : Nat, ay ≤ y ∧ y ≤ ey ∧ i = .int .i64 y ∧ Hid (Seen w6.heap.size sz (cntY (rA.take k) wn ax ay aw y) w6 wr2) ∧ Hid (wr2.heap[ab]? = some (.cells #[.int .i64 pn, .int .i64 (ax : Int), .int .i64 (ay : Int), .int .i64 (aw : Int), .int .i64 (ah : Int)] 32 (0, 0)))) (fun i _ => ey - (intOf i).toNat)
      case atStart => exact ⟨ay, Nat.le_refl _, by omega, rfl, (S0.out.drewN _).congr (g := cntY (rA.take k) wn ax ay aw ay) (fun j => (cntY_first (rA.take k) wn ax ay aw j).symm), HX0⟩
      case round =>
        obtain ⟨y, hy1, hy2, rfl, hS2, hX2⟩ := hrel
        clear x0 S0 HX0
        have x2 := box_cells hX2.out
        rename World => wr2
        by_cases hyt : y < ey
        · obtain ⟨p, hp⟩ : ∃ p, y * wn = p := ⟨_, rfl⟩
          have hp1 : p ≤ 240 := by rw [← hp]; exact Nat.mul_le_mul (by omega : y ≤ 10) b2
          have hp2 : p + wn ≤ sz := by rw [HSZ.out, ← hp, Nat.mul_comm wn hn, ← Nat.succ_mul]; exact Nat.mul_le_mul_right _ (by omega)
          have em : (y : Int) * (wn : Int) = (p : Int) := by rw [← hp]; simp
          have HP := Lib.hid hp
          clear hp
          go_wp2_with fail
          go_loopw [16] (fun i wr3 => ∃ x : Nat, ax ≤ x ∧ x ≤ ex ∧ i = .int .i64 x ∧ Hid (Seen w6.heap.size sz (cntX (rA.take k) wn ax ay aw y x) w6 wr3) ∧ Hid (wr3.heap[ab]? = some (.cells #[.int .i64 pn, .int .i64 (ax : Int), .int .i64 (ay : Int), .int .i64 (aw : Int), .int .i64 (ah : Int)] 32 (0, 0)))) (fun i _ => ex - (intOf i).toNat)
          case atStart => exact ⟨ax, Nat.le_refl _, by omega, rfl, hS2.out.congr (g := cntX (rA.take k) wn ax ay aw y ax) (fun j => (cntX_first (rA.take k) wn ax ay aw y j).symm), hX2⟩
          case round =>
            obtain ⟨x, hx1, hx2, rfl, hS3, hX3⟩ := hrel
            clear x2 hS2 hX2
            have x3 := box_cells hX3.out
            rename World => wr3
            by_cases hxt : x < ex
            · obtain ⟨j, hj⟩ : ∃ j, p + x = j := ⟨_, rfl⟩
              have ej : (p : Int) + (x : Int) = (j : Int) := by omega
              have hjs : j < sz := by omega
              obtain ⟨m1, m2⟩ := hS3.out.m j hjs
              have hv8 : cntX (rA.take k) wn ax ay aw y x j ≤ 8 := by have := cntX_le (rA.take k) wn ax ay aw y x j; have h2 : (rA.take k).length ≤ 6 := by {rw [List.length_take]; omega}; omega
              have HST : Hid (Seen w6.heap.size sz (cntX (rA.take k) wn ax ay aw y (x + 1)) w6 (wr3.setCell ⟨w6.heap.size, j, none⟩ (.int .i64 (cntX (rA.take k) wn ax ay aw y x j + 1 : Nat)))) := hS3.out.store hjs (fun j' => by rw [cntX_next _ _ _ _ _ _ _ _ hx1 (by omega), HP.out, hj])
              have HXT : Hid ((wr3.setCell ⟨w6.heap.size, j, none⟩ (.int .i64 (cntX (rA.take k) wn ax ay aw y x j + 1 : Nat))).heap[ab]? = some (.cells #[.int .i64 pn, .int .i64 (ax : Int), .int .i64 (ay : Int), .int .i64 (aw : Int), .int .i64 (ah : Int)] 32 (0, 0))) := (Below.heap_setCell _ _ _ _ (by dsimp only; omega)).trans hX3.out
              generalize cntX (rA.take k) wn ax ay aw y x j = v at *
              have ev : IntKind.i64.wrap ((v : Int) + 1) = ((v + 1 : Nat) : Int) := by rw [IntKind.wrap_i64] <;> omega
              rw [show ((v + 1 : Nat) : Int) = (v : Int) + 1 from by omega] at HST HXT ev
              have i5 : (0 : Int) ≤ (j : Int) := by omega
              have i6 : (j : Int) < (sz : Int) := by omega
              go_wp2
              go_roundw
              case rel => exact ⟨x + 1, by omega, by omega, by go_num, HST, HXT⟩
              case measure => simp [intOf] <;> omega
            · have HXE : Hid (x = ax + aw) := by show x = _; omega
              go_wp2
              go_roundw
              case rel => exact ⟨y + 1, by omega, by omega, by go_num, hS3.out.congr (fun j => by rw [HXE.out]; exact cntY_next _ _ _ _ _ _ _ hy1), hX3⟩
              case measure => simp [intOf] <;> omega
        · have HYE : Hid (y = ay + ah) := by show y = _; omega
          go_wp2
          go_roundw
          case rel => exact ⟨k + 1, by omega, by go_num, hS2.out.congr (fun j => by rw [HYE.out]; exact HNX.out j)⟩
          case measure => simp [intOf] <;> omega
    · obtain rfl : k = nA := by omega
      have HS1 : Hid (∀ j, j < sz → wr.cell? ⟨w6.heap.size, j, none⟩ = some (.int .i64 1)) := fun j hj => by
        have h := (hS.out.m j hj).1
        rw [List.take_of_length_le (Nat.le_of_eq HnA.out), HALL.out j (by rw [← HSZ.out]; exact hj)] at h
        exact h
      go_wp2_with fail
      go_loopw [17] (fun i wr2 => ∃ j : Nat, j ≤ sz ∧ i = .int .i64 j ∧ Below wr.heap.size wr wr2) (fun i _ => sz - (intOf i).toNat)
      case atStart => exact ⟨0, Nat.zero_le _, rfl, Below.refl _ _⟩
      case round =>
        obtain ⟨j, hj, rfl, hb2⟩ := hrel
        by_cases hjt : j < sz
        · have m1 := cell_keep hb2 (HS1.out j hjt)
          have i5 : (0 : Int) ≤ (j : Int) := by omega
          have i6 : (j : Int) < (sz : Int) := by omega
          go_wp2
          go_roundw
          case rel => exact ⟨j + 1, by omega, by go_num, hb2⟩
          case measure => simp [intOf] <;> omega
        · go_wp2
          go_ret
          exact ⟨rfl, BB.trans ((hS.out.b.trans (hb2.mono (Nat.le_of_lt hS.out.lt))).mono (by omega))⟩
end Go.Proofs.Ytlmppnckimoclaa
