/-
  The walk of the law FnMoves of the given program. No condition.
-/
import Derived.Test.YtlmppnckimoclaaLayMk
import Derived.Test.YtlmppnckimoclaaAreasR
import Derived.Test.YtlmppnckimoclaaMoveS
import Derived.Test.YtlmppnckimoclaaMoveI2
import Derived.Test.YtlmppnckimoclaaFitS
import Derived.Test.YtlmppnckimoclaaFitI
import Derived.Test.YtlmppnckimoclaaAt
import Derived.Test.YtlmppnckimoclaaLayOKI
import Derived.Deep.RegionHeld3
namespace Go.Proofs.Ytlmppnckimoclaa
open Go.ChangeShapes Go.WideShapes Go.ChangeAt Go.RowKit
set_option linter.unusedVariables false
set_option linter.unusedSimpArgs false
set_option maxRecDepth 100000
attribute [local irreducible] wpList
theorem At.at {w : World} {ao : Option Addr} {xs : List Value} (h : At w ao xs) : At w ao xs := h
theorem areas_pane {t : Tr} {W H : Int} {k : Nat} {q : AreaV} (h : (t.areas 0 0 W H)[k]? = some q) : q.pane ∈ t.panes := by
  rw [← Tr.areas_panes t 0 0 W H]; exact List.mem_map_of_mem (List.mem_of_getElem? h)
theorem moves_ok {ps : List PartV} {W H : Int} {t : Tr} (y : Lay ps W H t) {p by_ : Int} {rl : List PartV} {cd : Int} (hp : p ∈ t.panes) (h : MoveR ps W H p by_ rl cd) (h1 : -100 ≤ by_) (h2 : by_ ≤ 100) :
    (cd = 0 ∨ cd = 17) ∧ okL rl W H = true := by
  rcases h with ⟨h, _⟩ | ⟨t', y', ⟨h, _⟩ | ⟨_, t2, hO, rfl⟩⟩
  · exact absurd y (okL_none h t)
  · simp [inB] at h; omega
  · obtain rfl := y'.unique y
    refine ⟨?_, okL_true (moveO_ok y' hO)⟩
    rcases hO with ⟨h, _⟩ | ⟨_, _, _, h⟩ | ⟨_, _, _, h⟩
    · exact absurd hp h
    · exact .inr h
    · exact .inl h
theorem fits_ok {ps : List PartV} {W H : Int} {t : Tr} (y : Lay ps W H t) {nw nh : Int} {rl : List PartV} {cd : Int} (h : FitR ps W H nw nh rl cd) (h1 : 2 ≤ nw) (h2 : nw ≤ 24) (h3 : 2 ≤ nh) (h4 : nh ≤ 10) :
    (cd ≠ 0) ∨ (cd = 0 ∧ ∃ t' : Tr, Lay rl nw nh t' ∧ t'.panes = t.panes ∧ t'.leaves = t.leaves) := by
  rcases h with ⟨h, _⟩ | ⟨t', y', ⟨_, _, h⟩ | ⟨_, ⟨n1, n2, rfl, h⟩ | ⟨_, _, h⟩⟩⟩
  · exact absurd y (okL_none h t)
  · exact .inl (by omega)
  · obtain rfl := y'.unique y
    have hs := t'.fit_same nw nh
    refine .inr ⟨h, _, ⟨h1, h2, h3, h4, by rw [hs.2.1]; exact y'.lv, rfl, t'.fit_fits nw nh (Tr.fits_okN y'.ft) n1 n2, by rw [hs.1]; exact y'.nd⟩, hs.1, hs.2.1⟩
  · exact .inl (by omega)
theorem pane_same : ∀ {a b : List AreaV}, a.map (·.pane) = b.map (·.pane) → ∀ (k : Nat) (q : AreaV), b[k]? = some q → ∃ p, a[k]? = some p ∧ p.pane = q.pane
  | [], [], _, k, q, h => by simp at h
  | [], y :: ys, e, k, q, h => by simp at e
  | x :: xs, [], e, k, q, h => by simp at e
  | x :: xs, y :: ys, e, 0, q, h => by
    simp only [List.map_cons, List.cons.injEq] at e
    simp only [List.getElem?_cons_zero, Option.some.injEq] at h
    subst h
    exact ⟨x, rfl, e.1⟩
  | x :: xs, y :: ys, e, k + 1, q, h => by
    simp only [List.map_cons, List.cons.injEq] at e
    exact pane_same e.2 k q h
set_option maxHeartbeats 8000000 in
theorem walk_FnMoves (w : World) (a : Option Addr) (len cap : Nat) (l : List UInt8) (ha : At w a (u8s l)) (hl : l.length = len) (hs : len ≤ maxLen)
    (a' : Option Addr) (len' cap' : Nat) (l' : List UInt8) (ha' : At w a' (u8s l')) (hl' : l'.length = len') (hs' : len' ≤ maxLen) :
    Calls Try.prog 3 #[.slice a len cap, .slice a' len' cap'] w fun e w' => e = .returned (.bool true) ∧ Below w.heap.size w w' := by
  unfold maxLen at hs hs'
  have HL := Lib.hid hl
  have HL' := Lib.hid hl'
  have HA := Lib.hid ha
  have HA' := Lib.hid ha'
  clear hl hl' ha ha'
  by_cases h1 : 1048576 < len
  · go_enter Try.func3, Try.ntmps3
    go_wp2
    go_ret
    exact ⟨rfl, Below.refl _ _⟩
  have i1 : (len : Int) ≤ 1048576 := by omega
  by_cases h2 : 1048576 < len'
  · go_enter Try.func3, Try.ntmps3
    go_wp2
    go_ret
    exact ⟨rfl, Below.refl _ _⟩
  have i2 : (len' : Int) ≤ 1048576 := by omega
  obtain ⟨d0, hd0⟩ : ∃ d : Nat, atV l' 0 21 = d := ⟨_, rfl⟩
  have qd0 : d0 < 21 := by rw [← hd0]; exact atV_lt l' 0 21 (by omega)
  have HTd0 : Hid (∀ W : World, Below w.heap.size w W → Calls Try.prog 5 #[.slice a' len' cap', .int .i64 0, .int .i64 21] W fun e w' => e = .returned (.int .i64 (d0 : Int)) ∧ Below W.heap.size W w') := fun W hB => by
    rw [← hd0]; exact at_any a' len' cap' l' W 0 21 (HA'.out.below hB (Nat.le_refl _)) HL'.out (by omega) (by omega) (by omega)
  clear hd0
  obtain ⟨d1, hd1⟩ : ∃ d : Nat, atV l' 1 7 = d := ⟨_, rfl⟩
  have qd1 : d1 < 7 := by rw [← hd1]; exact atV_lt l' 1 7 (by omega)
  have HTd1 : Hid (∀ W : World, Below w.heap.size w W → Calls Try.prog 5 #[.slice a' len' cap', .int .i64 1, .int .i64 7] W fun e w' => e = .returned (.int .i64 (d1 : Int)) ∧ Below W.heap.size W w') := fun W hB => by
    rw [← hd1]; exact at_any a' len' cap' l' W 1 7 (HA'.out.below hB (Nat.le_refl _)) HL'.out (by omega) (by omega) (by omega)
  clear hd1
  have ew0 : IntKind.i64.wrap (4 + (d0 : Int)) = 4 + (d0 : Int) := by rw [IntKind.wrap_i64]; omega
  have ew1 : IntKind.i64.wrap (4 + (d1 : Int)) = 4 + (d1 : Int) := by rw [IntKind.wrap_i64]; omega
  obtain ⟨d3, hd3⟩ : ∃ d : Nat, atV l' 3 21 = d := ⟨_, rfl⟩
  have qd3 : d3 < 21 := by rw [← hd3]; exact atV_lt l' 3 21 (by omega)
  have HTd3 : Hid (∀ W : World, Below w.heap.size w W → Calls Try.prog 5 #[.slice a' len' cap', .int .i64 3, .int .i64 21] W fun e w' => e = .returned (.int .i64 (d3 : Int)) ∧ Below W.heap.size W w') := fun W hB => by
    rw [← hd3]; exact at_any a' len' cap' l' W 3 21 (HA'.out.below hB (Nat.le_refl _)) HL'.out (by omega) (by omega) (by omega)
  clear hd3
  obtain ⟨d4, hd4⟩ : ∃ d : Nat, atV l' 4 23 = d := ⟨_, rfl⟩
  have qd4 : d4 < 23 := by rw [← hd4]; exact atV_lt l' 4 23 (by omega)
  have HTd4 : Hid (∀ W : World, Below w.heap.size w W → Calls Try.prog 5 #[.slice a' len' cap', .int .i64 4, .int .i64 23] W fun e w' => e = .returned (.int .i64 (d4 : Int)) ∧ Below W.heap.size W w') := fun W hB => by
    rw [← hd4]; exact at_any a' len' cap' l' W 4 23 (HA'.out.below hB (Nat.le_refl _)) HL'.out (by omega) (by omega) (by omega)
  clear hd4
  obtain ⟨d5, hd5⟩ : ∃ d : Nat, atV l' 5 9 = d := ⟨_, rfl⟩
  have qd5 : d5 < 9 := by rw [← hd5]; exact atV_lt l' 5 9 (by omega)
  have HTd5 : Hid (∀ W : World, Below w.heap.size w W → Calls Try.prog 5 #[.slice a' len' cap', .int .i64 5, .int .i64 9] W fun e w' => e = .returned (.int .i64 (d5 : Int)) ∧ Below W.heap.size W w') := fun W hB => by
    rw [← hd5]; exact at_any a' len' cap' l' W 5 9 (HA'.out.below hB (Nat.le_refl _)) HL'.out (by omega) (by omega) (by omega)
  clear hd5
  have ew4 : IntKind.i64.wrap (2 + (d4 : Int)) = 2 + (d4 : Int) := by rw [IntKind.wrap_i64]; omega
  have ew5 : IntKind.i64.wrap (2 + (d5 : Int)) = 2 + (d5 : Int) := by rw [IntKind.wrap_i64]; omega
  go_enter Try.func3, Try.ntmps3
  have BB : Below w.heap.size w w := Below.refl _ _
  go_wp2_with fail
  refine (HTd0.out _ BB).mono ?_
  rintro e w1 ⟨rfl, hb⟩
  have hz1 : w.heap.size ≤ w1.heap.size := hb.size
  replace BB : Below w.heap.size w w1 := BB.trans (hb.mono (by omega))
  clear hb
  go_wp2_with fail
  refine (HTd1.out _ BB).mono ?_
  rintro e w2 ⟨rfl, hb⟩
  have hz2 : w1.heap.size ≤ w2.heap.size := hb.size
  replace BB : Below w.heap.size w w2 := BB.trans (hb.mono (by omega))
  clear hb
  have hc0 := BB.size
  go_wp2_with fail
  refine (mkLayout_any _ a len cap l (HA.out.below BB (Nat.le_refl _)) HL.out (by omega) (4 + (d0 : Int)) (4 + (d1 : Int)) (by omega) (by omega) (by omega) (by omega)).mono ?_
  rintro e w3 ⟨a_L, n_L, c_L, ps, t, rfl, hm, hM, hb⟩
  have hz3 : w2.heap.size ≤ w3.heap.size := hb.size
  replace BB : Below w.heap.size w w3 := BB.trans (hb.mono (by omega))
  clear hb
  clear hc0
  have s_L := Sl.of hM
  clear hM
  have HM := Lib.hid hm
  have hy6 := hm.y.len
  have hnL := hm.len
  have hln : n_L ≤ 11 := by omega
  have hln1 : 1 ≤ n_L := by omega
  clear hm hnL hy6
  have hA : Below w3.heap.size w3 (w3.alloc (.cells #[.slice a_L n_L c_L] 26)) := (Below.refl _ _).alloc (Nat.le_refl _) _
  have X_L := Lib.hid (box_new w3 (.cells #[.slice a_L n_L c_L] 26))
  have x_L := box_cells X_L.out
  replace s_L := s_L.below hA (by omega)
  replace BB := BB.trans (hA.mono (by omega))
  clear hA
  obtain ⟨rA, cA, hRA⟩ : ∃ rl cd, AreasR ps (4 + (d0 : Int)) (4 + (d1 : Int)) rl cd ∧ rl = t.areas 0 0 (4 + (d0 : Int)) (4 + (d1 : Int)) ∧ cd = 0 := ⟨_, _, .inr ⟨t, HM.out.y, rfl, rfl⟩, rfl, rfl⟩
  obtain ⟨hRA, hrA, rfl⟩ := hRA
  obtain ⟨nA, hnA⟩ : ∃ n, rA.length = n := ⟨_, rfl⟩
  have hlv := HM.out.y.lv
  have hl1 : 1 ≤ t.leaves := by have := t.len_eq; have := HM.out.y.len; omega
  have hnl : nA = t.leaves := by rw [← hnA, hrA, Tr.length_areas]
  have hnA6 : nA ≤ 6 := by omega
  have hnA1 : 1 ≤ nA := by omega
  have HRA := Lib.hid hRA
  have HrA := Lib.hid hrA
  have HnA := Lib.hid hnA
  have HnL := Lib.hid hnl
  clear hRA hrA hnA hlv hl1 hnl
  go_wp2_with fail
  generalize hv : w3.alloc (.cells #[.slice a_L n_L c_L] 26) = v0 at *
  have hs_v0 : v0.heap.size = w3.heap.size + 1 := by rw [← hv]; simp
  clear hv
  refine (specAreasR_any a_L n_L c_L ps _ _ nA rA 0 _ s_L.at HM.out.len HM.out.cap (by omega) HRA.out HnA.out).mono ?_
  rintro e w4 ⟨a_A, c_A, rfl, hM, hb⟩
  have hz4 : v0.heap.size ≤ w4.heap.size := hb.size
  replace X_L := Lib.hid (box_below X_L.out hb (by omega))
  replace x_L := box_cells X_L.out
  replace s_L := s_L.below hb (by omega)
  replace BB : Below w.heap.size w w4 := BB.trans (hb.mono (by omega))
  clear hb
  have s_A := Sl.of hM
  clear hM
  obtain ⟨d2, hd2⟩ : ∃ d : Nat, atV l' 2 nA = d := ⟨_, rfl⟩
  have qd2 : d2 < nA := by rw [← hd2]; exact atV_lt l' 2 nA (by omega)
  have HTd2 : Hid (∀ W : World, Below w.heap.size w W → Calls Try.prog 5 #[.slice a' len' cap', .int .i64 2, .int .i64 nA] W fun e w' => e = .returned (.int .i64 (d2 : Int)) ∧ Below W.heap.size W w') := fun W hB => by
    rw [← hd2]; exact at_any a' len' cap' l' W 2 nA (HA'.out.below hB (Nat.le_refl _)) HL'.out (by omega) (by omega) (by omega)
  clear hd2
  go_wp2_with fail
  refine (HTd2.out _ BB).mono ?_
  rintro e w5 ⟨rfl, hb⟩
  have hz5 : w4.heap.size ≤ w5.heap.size := hb.size
  replace X_L := Lib.hid (box_below X_L.out hb (by omega))
  replace x_L := box_cells X_L.out
  replace s_L := s_L.below hb (by omega)
  replace s_A := s_A.below hb (by omega)
  replace BB : Below w.heap.size w w5 := BB.trans (hb.mono (by omega))
  clear hb
  obtain ⟨q, hq⟩ : ∃ q, rA[d2]? = some q := ⟨rA[d2]'(by rw [HnA.out]; exact qd2), List.getElem?_eq_getElem _⟩
  obtain ⟨bA, oA, rfl, k0, k1, k2, k3, k4⟩ := s_A.at.area hq
  have HPN : Hid (q.pane ∈ t.panes) := areas_pane (by rw [← HrA.out]; exact hq)
  generalize q.pane = pn at *
  clear hq k1 k2 k3 k4
  have j1 : (0 : Int) ≤ (d2 : Int) := by omega
  have j2 : (d2 : Int) < (nA : Int) := by omega
  obtain ⟨rM, cM, hRM, hM13⟩ := moveR_total ps (4 + (d0 : Int)) (4 + (d1 : Int)) pn ((d3 : Int) - 10)
  obtain ⟨nM, hnM⟩ : ∃ n, rM.length = n := ⟨_, rfl⟩
  have hM13' : nM ≤ 13 := by omega
  have HMO := Lib.hid (moves_ok HM.out.y HPN.out hRM (by omega) (by omega))
  have HRM := Lib.hid hRM
  have HnM := Lib.hid hnM
  clear hRM hnM hM13
  have ew3 : IntKind.i64.wrap ((d3 : Int) - 10) = (d3 : Int) - 10 := by rw [IntKind.wrap_i64]; omega
  have Bd : Below w5.heap.size w5 w5.drew := (Below.refl _ _).drew
  have Ba : Below w5.heap.size w5 (w5.alloc (.cells #[.slice none 0 0] 26)).drew := ((Below.refl _ _).alloc (Nat.le_refl _) _).drew
  have na : (w5.alloc (.cells #[.slice none 0 0] 26)).drew.heap[w5.heap.size]? = some (.cells #[.slice none 0 0] 26) := heap_alloc_new w5 _
  have sa : (w5.alloc (.cells #[.slice none 0 0] 26)).drew.heap.size = w5.heap.size + 1 := by show (w5.alloc _).heap.size = _; simp
  have lL : w3.heap.size < w5.heap.size := by omega
  have xd := box_cells (box_below X_L.out Bd lL)
  have xa := box_cells (box_below X_L.out Ba lL)
  go_wp2_with fail
  go_cut [11, 12] from 24 (fun v cc wx => ∃ (B : Nat) (am : Option Addr) (cm : Nat), v = .pointer (some ⟨B, 0, none⟩) ∧ cc = .int .i64 cM ∧ Hid (wx.heap[B]? = some (.cells #[.slice am nM cm] 26 (0, 0)) ∧ nM ≤ cm ∧ At wx am (partsV rM) ∧ Below w5.heap.size w5 wx))
  case first =>
    go_region_with (first
      | (have _nd := N6; go_at_call 8; refine (implMoveR_any a_L n_L c_L ps (4 + (d0 : Int)) (4 + (d1 : Int)) pn ((d3 : Int) - 10) nM rM cM _ (s_L.at.below R6 (by omega)) HM.out.len HM.out.cap (by omega) HRM.out HnM.out).mono ?_; rintro e w7 ⟨aM, kM, rfl, hkM, hmM, hb7⟩; have R7 := R6.trans (hb7.mono R6.size); have N7 := box_below N6 hb7 (box_lt N6); have y7 := box_cells N7; have f7 := box_free N7)
      | (have _nd := R6; go_at_call 8; refine (implMoveR_any a_L n_L c_L ps (4 + (d0 : Int)) (4 + (d1 : Int)) pn ((d3 : Int) - 10) nM rM cM _ (s_L.at.below R6 (by omega)) HM.out.len HM.out.cap (by omega) HRM.out HnM.out).mono ?_; rintro e w7 ⟨aM, kM, rfl, hkM, hmM, hb7⟩; have R7 := R6.trans (hb7.mono R6.size))
      | (have _nd := R6; go_at_call 8; refine (implMoveR_any a_L n_L c_L ps (4 + (d0 : Int)) (4 + (d1 : Int)) pn ((d3 : Int) - 10) nM rM cM _ (s_L.at.below R6a (by omega)) HM.out.len HM.out.cap (by omega) HRM.out HnM.out).mono ?_; rintro e w7 ⟨aM, kM, rfl, hkM, hmM, hb7⟩; have R7 := R6a.trans (hb7.mono R6a.size); have N7 := box_below (box_new w6 (.cells #[.slice none 0 0] 26)) hb7 (by simp); have y7 := box_cells N7; have f7 := box_free N7)
      | (go_at_call 5; refine (HTd3.out _ (BB.trans (Bd.mono (by omega)))).mono ?_; rintro e w6 ⟨rfl, hb6⟩; have R6 := Bd.trans (hb6.mono Bd.size); have R6a := R6.alloc R6.size (.cells #[.slice none 0 0] 26); have x6 := box_cells (box_below X_L.out R6 lL); have x6a := box_cells (box_below X_L.out R6a lL))
      | (go_at_call 5; refine (HTd3.out _ (BB.trans (Ba.mono (by omega)))).mono ?_; rintro e w6 ⟨rfl, hb6⟩; have R6 := Ba.trans (hb6.mono Ba.size); have N6 := box_below na hb6 (by omega); have x6 := box_cells (box_below X_L.out R6 lL))
      | fail)
    all_goals
      go_wp2_with fail
      go_meet
      case rel =>
        have hz6 := R6.size
        first
          | exact ⟨_, aM, kM, rfl, rfl, ⟨heap_alloc_new _ _, hkM, hmM.at.below ((Below.refl _ _).alloc (Nat.le_refl _) _) (Nat.le_refl _), R7.alloc R7.size _⟩⟩
          | exact ⟨_, aM, kM, rfl, rfl, ⟨set_heap N7 0 _, hkM, (hmM.set_oth (by dsimp only; first | omega | (have := box_lt N6; omega) | simp) _).at, R7.setCell (by dsimp only; omega) _⟩⟩
  clear Bd Ba na sa lL xd xa
  obtain ⟨B_m, a_m, c_m, rfl, rfl, hr0⟩ := hcut
  obtain ⟨hrm, k_m, hatm, hb⟩ := hr0.out
  clear hr0
  generalize wc = w6 at *
  have hz6 : w5.heap.size ≤ w6.heap.size := hb.size
  replace X_L := Lib.hid (box_below X_L.out hb (by omega))
  replace x_L := box_cells X_L.out
  replace s_L := s_L.below hb (by omega)
  replace s_A := s_A.below hb (by omega)
  replace BB : Below w.heap.size w w6 := BB.trans (hb.mono (by omega))
  have lB_m := box_lt hrm
  have X_m := Lib.hid hrm
  have x_m := box_cells X_m.out
  have s_m := hatm
  clear hb hrm hatm
  have Bd : Below w6.heap.size w6 w6.drew := (Below.refl _ _).drew
  have Ba : Below w6.heap.size w6 (w6.alloc (.cells #[.slice none 0 0] 26)).drew := ((Below.refl _ _).alloc (Nat.le_refl _) _).drew
  have na : (w6.alloc (.cells #[.slice none 0 0] 26)).drew.heap[w6.heap.size]? = some (.cells #[.slice none 0 0] 26) := heap_alloc_new w6 _
  have sa : (w6.alloc (.cells #[.slice none 0 0] 26)).drew.heap.size = w6.heap.size + 1 := by show (w6.alloc _).heap.size = _; simp
  have lL : w3.heap.size < w6.heap.size := by omega
  have xd := box_cells (box_below X_L.out Bd lL)
  have xa := box_cells (box_below X_L.out Ba lL)
  go_wp2_with fail
  go_cut [13, 14] from 24 (fun v cc wx => ∃ (B : Nat) (am : Option Addr) (cm : Nat), v = .pointer (some ⟨B, 0, none⟩) ∧ cc = .int .i64 cM ∧ Hid (wx.heap[B]? = some (.cells #[.slice am nM cm] 26 (0, 0)) ∧ nM ≤ cm ∧ At wx am (partsV rM) ∧ Below w6.heap.size w6 wx))
  case first =>
    go_region_with (first
      | (have _nd := N6; go_at_call 9; refine (specMoveR_any a_L n_L c_L ps (4 + (d0 : Int)) (4 + (d1 : Int)) pn ((d3 : Int) - 10) nM rM cM _ (s_L.at.below R6 (by omega)) HM.out.len HM.out.cap (by omega) HRM.out HnM.out).mono ?_; rintro e w7 ⟨aM, kM, rfl, hkM, hmM, hb7⟩; have R7 := R6.trans (hb7.mono R6.size); have N7 := box_below N6 hb7 (box_lt N6); have y7 := box_cells N7; have f7 := box_free N7)
      | (have _nd := R6; go_at_call 9; refine (specMoveR_any a_L n_L c_L ps (4 + (d0 : Int)) (4 + (d1 : Int)) pn ((d3 : Int) - 10) nM rM cM _ (s_L.at.below R6 (by omega)) HM.out.len HM.out.cap (by omega) HRM.out HnM.out).mono ?_; rintro e w7 ⟨aM, kM, rfl, hkM, hmM, hb7⟩; have R7 := R6.trans (hb7.mono R6.size))
      | (have _nd := R6; go_at_call 9; refine (specMoveR_any a_L n_L c_L ps (4 + (d0 : Int)) (4 + (d1 : Int)) pn ((d3 : Int) - 10) nM rM cM _ (s_L.at.below R6a (by omega)) HM.out.len HM.out.cap (by omega) HRM.out HnM.out).mono ?_; rintro e w7 ⟨aM, kM, rfl, hkM, hmM, hb7⟩; have R7 := R6a.trans (hb7.mono R6a.size); have N7 := box_below (box_new w6 (.cells #[.slice none 0 0] 26)) hb7 (by simp); have y7 := box_cells N7; have f7 := box_free N7)
      | (go_at_call 5; refine (HTd3.out _ (BB.trans (Bd.mono (by omega)))).mono ?_; rintro e w6 ⟨rfl, hb6⟩; have R6 := Bd.trans (hb6.mono Bd.size); have R6a := R6.alloc R6.size (.cells #[.slice none 0 0] 26); have x6 := box_cells (box_below X_L.out R6 lL); have x6a := box_cells (box_below X_L.out R6a lL))
      | (go_at_call 5; refine (HTd3.out _ (BB.trans (Ba.mono (by omega)))).mono ?_; rintro e w6 ⟨rfl, hb6⟩; have R6 := Ba.trans (hb6.mono Ba.size); have N6 := box_below na hb6 (by omega); have x6 := box_cells (box_below X_L.out R6 lL))
      | fail)
    all_goals
      go_wp2_with fail
      go_meet
      case rel =>
        have hz6 := R6.size
        first
          | exact ⟨_, aM, kM, rfl, rfl, ⟨heap_alloc_new _ _, hkM, hmM.at.below ((Below.refl _ _).alloc (Nat.le_refl _) _) (Nat.le_refl _), R7.alloc R7.size _⟩⟩
          | exact ⟨_, aM, kM, rfl, rfl, ⟨set_heap N7 0 _, hkM, (hmM.set_oth (by dsimp only; first | omega | (have := box_lt N6; omega) | simp) _).at, R7.setCell (by dsimp only; omega) _⟩⟩
  clear Bd Ba na sa lL xd xa
  obtain ⟨B_t, a_t, c_t, rfl, rfl, hr0⟩ := hcut
  obtain ⟨hrm, k_t, hatm, hb⟩ := hr0.out
  clear hr0
  generalize wc = w7 at *
  have hz7 : w6.heap.size ≤ w7.heap.size := hb.size
  replace X_L := Lib.hid (box_below X_L.out hb (by omega))
  replace x_L := box_cells X_L.out
  replace X_m := Lib.hid (box_below X_m.out hb (by omega))
  replace x_m := box_cells X_m.out
  replace s_L := s_L.below hb (by omega)
  replace s_A := s_A.below hb (by omega)
  replace s_m := s_m.below hb (by omega)
  replace BB : Below w.heap.size w w7 := BB.trans (hb.mono (by omega))
  have lB_t := box_lt hrm
  have X_t := Lib.hid hrm
  have x_t := box_cells X_t.out
  have s_t := hatm
  clear hb hrm hatm
  go_upto_region 12 with fail
  go_cut [99] from 24 (fun b wx => b = .bool false ∧ Below w7.heap.size w7 wx)
  case first =>
    go_wp2_with fail
    refine (sameParts_same a_m a_t nM c_m c_t rM _ s_m s_t HnM.out (by omega)).mono ?_
    rintro e w7 ⟨rfl, hb7⟩
    have HB7 := Lib.hid hb7
    clear hb7
    rcases HMO.out.1 with h | h
    all_goals
      subst h
      go_wp2_with fail
      go_meet
      case rel => exact ⟨rfl, HB7.out⟩
  obtain ⟨rfl, hb⟩ := hcut
  generalize wc = w8 at *
  have hz8 : w7.heap.size ≤ w8.heap.size := hb.size
  replace X_L := Lib.hid (box_below X_L.out hb (by omega))
  replace x_L := box_cells X_L.out
  replace X_m := Lib.hid (box_below X_m.out hb (by omega))
  replace x_m := box_cells X_m.out
  replace X_t := Lib.hid (box_below X_t.out hb (by omega))
  replace x_t := box_cells X_t.out
  replace s_L := s_L.below hb (by omega)
  replace s_A := s_A.below hb (by omega)
  replace s_m := s_m.below hb (by omega)
  replace s_t := s_t.below hb (by omega)
  replace BB : Below w.heap.size w w8 := BB.trans (hb.mono (by omega))
  clear hb
  go_wp2_with fail
  refine (HTd4.out _ BB).mono ?_
  rintro e w9 ⟨rfl, hb⟩
  have hz9 : w8.heap.size ≤ w9.heap.size := hb.size
  replace X_L := Lib.hid (box_below X_L.out hb (by omega))
  replace x_L := box_cells X_L.out
  replace X_m := Lib.hid (box_below X_m.out hb (by omega))
  replace x_m := box_cells X_m.out
  replace X_t := Lib.hid (box_below X_t.out hb (by omega))
  replace x_t := box_cells X_t.out
  replace s_L := s_L.below hb (by omega)
  replace s_A := s_A.below hb (by omega)
  replace s_m := s_m.below hb (by omega)
  replace s_t := s_t.below hb (by omega)
  replace BB : Below w.heap.size w w9 := BB.trans (hb.mono (by omega))
  clear hb
  go_wp2_with fail
  refine (HTd5.out _ BB).mono ?_
  rintro e w10 ⟨rfl, hb⟩
  have hz10 : w9.heap.size ≤ w10.heap.size := hb.size
  replace X_L := Lib.hid (box_below X_L.out hb (by omega))
  replace x_L := box_cells X_L.out
  replace X_m := Lib.hid (box_below X_m.out hb (by omega))
  replace x_m := box_cells X_m.out
  replace X_t := Lib.hid (box_below X_t.out hb (by omega))
  replace x_t := box_cells X_t.out
  replace s_L := s_L.below hb (by omega)
  replace s_A := s_A.below hb (by omega)
  replace s_m := s_m.below hb (by omega)
  replace s_t := s_t.below hb (by omega)
  replace BB : Below w.heap.size w w10 := BB.trans (hb.mono (by omega))
  clear hb
  obtain ⟨rF, cF, hRF, hF13⟩ := fitR_total ps (4 + (d0 : Int)) (4 + (d1 : Int)) (2 + (d4 : Int)) (2 + (d5 : Int))
  obtain ⟨nF, hnF⟩ : ∃ n, rF.length = n := ⟨_, rfl⟩
  have hF13' : nF ≤ 13 := by omega
  have HFO := Lib.hid (fits_ok HM.out.y hRF (by omega) (by omega) (by omega) (by omega))
  have HRF := Lib.hid hRF
  have HnF := Lib.hid hnF
  clear hRF hnF hF13
  have hc0 := BB.size
  go_wp2_with fail
  refine (implFitR_any a_L n_L c_L ps (4 + (d0 : Int)) (4 + (d1 : Int)) (2 + (d4 : Int)) (2 + (d5 : Int)) nF rF cF _ s_L.at HM.out.len HM.out.cap (by omega) HRF.out HnF.out).mono ?_
  rintro e w11 ⟨a_F, c_F, rfl, k_F, hM, hb⟩
  have hz11 : w10.heap.size ≤ w11.heap.size := hb.size
  replace X_L := Lib.hid (box_below X_L.out hb (by omega))
  replace x_L := box_cells X_L.out
  replace X_m := Lib.hid (box_below X_m.out hb (by omega))
  replace x_m := box_cells X_m.out
  replace X_t := Lib.hid (box_below X_t.out hb (by omega))
  replace x_t := box_cells X_t.out
  replace s_L := s_L.below hb (by omega)
  replace s_A := s_A.below hb (by omega)
  replace s_m := s_m.below hb (by omega)
  replace s_t := s_t.below hb (by omega)
  replace BB : Below w.heap.size w w11 := BB.trans (hb.mono (by omega))
  clear hb
  clear hc0
  have s_F := Sl.of hM
  clear hM
  have hA : Below w11.heap.size w11 (w11.alloc (.cells #[.slice a_F nF c_F] 26)) := (Below.refl _ _).alloc (Nat.le_refl _) _
  replace X_L := Lib.hid (box_below X_L.out hA (by omega))
  replace x_L := box_cells X_L.out
  replace X_m := Lib.hid (box_below X_m.out hA (by omega))
  replace x_m := box_cells X_m.out
  replace X_t := Lib.hid (box_below X_t.out hA (by omega))
  replace x_t := box_cells X_t.out
  have X_F := Lib.hid (box_new w11 (.cells #[.slice a_F nF c_F] 26))
  have x_F := box_cells X_F.out
  replace s_L := s_L.below hA (by omega)
  replace s_A := s_A.below hA (by omega)
  replace s_m := s_m.below hA (by omega)
  replace s_t := s_t.below hA (by omega)
  replace s_F := s_F.below hA (by omega)
  replace BB := BB.trans (hA.mono (by omega))
  clear hA
  have hc0 := BB.size
  go_wp2_with fail
  generalize hv : w11.alloc (.cells #[.slice a_F nF c_F] 26) = v1 at *
  have hs_v1 : v1.heap.size = w11.heap.size + 1 := by rw [← hv]; simp
  clear hv
  refine (specFitR_any a_L n_L c_L ps (4 + (d0 : Int)) (4 + (d1 : Int)) (2 + (d4 : Int)) (2 + (d5 : Int)) nF rF cF _ s_L.at HM.out.len HM.out.cap (by omega) HRF.out HnF.out).mono ?_
  rintro e w12 ⟨a_T, c_T, rfl, k_T, hM, hb⟩
  have hz12 : v1.heap.size ≤ w12.heap.size := hb.size
  replace X_L := Lib.hid (box_below X_L.out hb (by omega))
  replace x_L := box_cells X_L.out
  replace X_m := Lib.hid (box_below X_m.out hb (by omega))
  replace x_m := box_cells X_m.out
  replace X_t := Lib.hid (box_below X_t.out hb (by omega))
  replace x_t := box_cells X_t.out
  replace X_F := Lib.hid (box_below X_F.out hb (by omega))
  replace x_F := box_cells X_F.out
  replace s_L := s_L.below hb (by omega)
  replace s_A := s_A.below hb (by omega)
  replace s_m := s_m.below hb (by omega)
  replace s_t := s_t.below hb (by omega)
  replace s_F := s_F.below hb (by omega)
  replace BB : Below w.heap.size w w12 := BB.trans (hb.mono (by omega))
  clear hb
  clear hc0
  have s_T := Sl.of hM
  clear hM
  have hA : Below w12.heap.size w12 (w12.alloc (.cells #[.slice a_T nF c_T] 26)) := (Below.refl _ _).alloc (Nat.le_refl _) _
  replace X_L := Lib.hid (box_below X_L.out hA (by omega))
  replace x_L := box_cells X_L.out
  replace X_m := Lib.hid (box_below X_m.out hA (by omega))
  replace x_m := box_cells X_m.out
  replace X_t := Lib.hid (box_below X_t.out hA (by omega))
  replace x_t := box_cells X_t.out
  replace X_F := Lib.hid (box_below X_F.out hA (by omega))
  replace x_F := box_cells X_F.out
  have X_T := Lib.hid (box_new w12 (.cells #[.slice a_T nF c_T] 26))
  have x_T := box_cells X_T.out
  replace s_L := s_L.below hA (by omega)
  replace s_A := s_A.below hA (by omega)
  replace s_m := s_m.below hA (by omega)
  replace s_t := s_t.below hA (by omega)
  replace s_F := s_F.below hA (by omega)
  replace s_T := s_T.below hA (by omega)
  replace BB := BB.trans (hA.mono (by omega))
  clear hA
  go_wp2_with fail
  generalize hv : w12.alloc (.cells #[.slice a_T nF c_T] 26) = v2 at *
  have hs_v2 : v2.heap.size = w12.heap.size + 1 := by rw [← hv]; simp
  clear hv
  refine (sameParts_same a_F a_T nF c_F c_T rF _ s_F.at s_T.at HnF.out (by omega)).mono ?_
  rintro e w13 ⟨rfl, hb⟩
  have hz13 : v2.heap.size ≤ w13.heap.size := hb.size
  replace X_L := Lib.hid (box_below X_L.out hb (by omega))
  replace x_L := box_cells X_L.out
  replace X_m := Lib.hid (box_below X_m.out hb (by omega))
  replace x_m := box_cells X_m.out
  replace X_t := Lib.hid (box_below X_t.out hb (by omega))
  replace x_t := box_cells X_t.out
  replace X_F := Lib.hid (box_below X_F.out hb (by omega))
  replace x_F := box_cells X_F.out
  replace X_T := Lib.hid (box_below X_T.out hb (by omega))
  replace x_T := box_cells X_T.out
  replace s_L := s_L.below hb (by omega)
  replace s_A := s_A.below hb (by omega)
  replace s_m := s_m.below hb (by omega)
  replace s_t := s_t.below hb (by omega)
  replace s_F := s_F.below hb (by omega)
  replace s_T := s_T.below hb (by omega)
  replace BB : Below w.heap.size w w13 := BB.trans (hb.mono (by omega))
  clear hb
  have HOM : Hid (∀ wx : World, At wx a_m (partsV rM) → Calls Try.prog 14 #[.agg #[.slice a_m nM c_m], .int .i64 (4 + (d0 : Int)), .int .i64 (4 + (d1 : Int))] wx (fun e w' => e = .returned (.bool true) ∧ Below wx.heap.size wx w')) := fun wx hx => by
    have h := implLayOK_any a_m nM c_m rM HnM.out (by omega) k_m (4 + (d0 : Int)) (4 + (d1 : Int)) wx hx
    rw [HMO.out.2] at h; exact h
  rcases HFO.out with hcF | ⟨hcF, t', hy', hpp, hlv⟩
  · have e0 : (cF == 0) = false := by simpa using hcF
    clear hcF
    go_wp2_with fail
    refine (HOM.out _ (s_m)).mono ?_
    rintro e w90 ⟨rfl, hb⟩
    have HBB := Lib.hid ((BB).trans (hb.mono (by have := (BB).size; omega)))
    clear hb
    go_wp2_with fail
    go_ret
    exact ⟨rfl, HBB.out⟩
  subst hcF
  obtain ⟨rN, hrN⟩ : ∃ r, r = t'.areas 0 0 (2 + (d4 : Int)) (2 + (d5 : Int)) := ⟨_, rfl⟩
  have hnN : rN.length = nA := by rw [hrN, Tr.length_areas, hlv]; exact HnL.out.symm
  have HPS := Lib.hid (pane_same (by rw [hrN, HrA.out, Tr.areas_panes, Tr.areas_panes, hpp] : rN.map (·.pane) = rA.map (·.pane)))
  have HnN := Lib.hid hnN
  have HRN : Hid (AreasR rF (2 + (d4 : Int)) (2 + (d5 : Int)) rN 0) := .inr ⟨t', hy', hrN, rfl⟩
  clear hnN hrN hpp hlv hy'
  have hc0 := BB.size
  go_wp2_with fail
  refine (implAreasR_any a_F nF c_F rF _ _ nA rN 0 _ s_F.at HnF.out k_F (by omega) HRN.out HnN.out).mono ?_
  rintro e w14 ⟨a_N, c_N, rfl, hM, hb⟩
  have hz14 : w13.heap.size ≤ w14.heap.size := hb.size
  replace X_L := Lib.hid (box_below X_L.out hb (by omega))
  replace x_L := box_cells X_L.out
  replace X_m := Lib.hid (box_below X_m.out hb (by omega))
  replace x_m := box_cells X_m.out
  replace X_t := Lib.hid (box_below X_t.out hb (by omega))
  replace x_t := box_cells X_t.out
  replace X_F := Lib.hid (box_below X_F.out hb (by omega))
  replace x_F := box_cells X_F.out
  replace X_T := Lib.hid (box_below X_T.out hb (by omega))
  replace x_T := box_cells X_T.out
  replace s_L := s_L.below hb (by omega)
  replace s_A := s_A.below hb (by omega)
  replace s_m := s_m.below hb (by omega)
  replace s_t := s_t.below hb (by omega)
  replace s_F := s_F.below hb (by omega)
  replace s_T := s_T.below hb (by omega)
  replace BB : Below w.heap.size w w14 := BB.trans (hb.mono (by omega))
  clear hb
  clear hc0
  have s_N := Sl.of hM
  clear hM
  go_wp2_with fail
  go_loopw [21, 24] (fun g i wr => ∃ k : Nat, k ≤ nA ∧ g = .int .i64 k ∧ i = .int .i64 k ∧ Below w14.heap.size w14 wr) (fun g i _ => nA - (intOf i).toNat)
  case atStart => exact ⟨0, Nat.zero_le _, rfl, rfl, Below.refl _ _⟩
  case round =>
    obtain ⟨k, hk, rfl, rfl, hbel⟩ := hrel
    by_cases hkt : k < nA
    · obtain ⟨p, hp⟩ : ∃ p, rA[k]? = some p := ⟨rA[k]'(by rw [HnA.out]; exact hkt), List.getElem?_eq_getElem _⟩
      obtain ⟨p', hp', hpe⟩ := HPS.out k p hp
      obtain ⟨b1, o1, rfl, c0, c1, c2, c3, c4⟩ := (s_N.at.below hbel (Nat.le_refl _)).area hp'
      obtain ⟨b2, o2, he2, d0', d1', d2', d3', d4'⟩ := (s_A.at.below hbel (by omega)).area hp
      simp only [Option.some.injEq, Addr.mk.injEq, and_true] at he2
      obtain ⟨rfl, rfl⟩ := he2
      rw [hpe] at c0
      generalize p.pane = pv at *
      have i1 : (0 : Int) ≤ (k : Int) := by omega
      have i2 : (k : Int) < (nA : Int) := by omega
      clear hp hp' hpe c1 c2 c3 c4 d1' d2' d3' d4'
      go_wp2_with fail
      go_quiet (fail)
      go_wp2
      go_roundw
      case rel => exact ⟨k + 1, by omega, by go_num, by go_num, hbel.trans ⟨rfl, rfl, rfl, Nat.le_refl _, fun _ _ => rfl⟩⟩
      case measure => simp [intOf] <;> omega
    · obtain rfl : k = nA := by omega
      have xm := box_cells (box_below X_m.out hbel (by omega))
      go_wp2_with fail
      refine (HOM.out _ (s_m.below hbel (by omega))).mono ?_
      rintro e w91 ⟨rfl, hb⟩
      have HBB := Lib.hid ((BB.trans (hbel.mono (by have := BB.size; omega))).trans (hb.mono (by have := (BB.trans (hbel.mono (by have := BB.size; omega))).size; omega)))
      clear hb
      go_wp2_with fail
      go_ret
      exact ⟨rfl, HBB.out⟩
end Go.Proofs.Ytlmppnckimoclaa
