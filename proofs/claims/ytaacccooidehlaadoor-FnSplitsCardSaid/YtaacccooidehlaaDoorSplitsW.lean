/-
  The walk of the law FnSplits of the given program. No condition.
-/
import Derived.Test.YtaacccooidehlaaDoorSplitsPre
import Derived.Test.YtaacccooidehlaaDoorAreasR
import Derived.Test.YtaacccooidehlaaDoorSplitS
import Derived.Test.YtaacccooidehlaaDoorAt
import Derived.Deep.RegionHeld3
namespace Go.Proofs.YtaacccooidehlaaDoor
open Go.ChangeShapes Go.WideShapes Go.ChangeAt Go.RowKit
set_option linter.unusedVariables false
set_option linter.unusedSimpArgs false
set_option maxRecDepth 100000
attribute [local irreducible] wpList
theorem At.at {w : World} {ao : Option Addr} {xs : List Value} (h : At w ao xs) : At w ao xs := h
theorem areas_pane {t : Tr} {W H : Int} {k : Nat} {q : AreaV} (h : (t.areas 0 0 W H)[k]? = some q) : q.pane ∈ t.panes := by
  rw [← Tr.areas_panes t 0 0 W H]; exact List.mem_map_of_mem (List.mem_of_getElem? h)
theorem splits_ok {ps : List PartV} {W H : Int} {t : Tr} (y : Lay ps W H t) {p : Int} {rws : Bool} {rl : List PartV} {cd : Int} (hp : p ∈ t.panes) (hf : (77 : Int) ∉ t.panes) (h : SplitR ps W H p 77 rws rl cd) :
    ((cd = 10 ∨ cd = 7) ∧ rl = ps) ∨ (cd = 0 ∧ ∃ t', Lay rl W H t' ∧ t'.leaves = t.leaves + 1 ∧ KillR rl W H 77 ps 0) := by
  rcases h with ⟨h, _⟩ | ⟨t0, y0, ⟨h, _⟩ | ⟨_, h1, h2, t', hO, rfl⟩⟩
  · exact absurd y (okL_none h t)
  · simp [inB] at h
  · obtain rfl := y0.unique y
    have y' := splitO_ok y h1 h2 hO
    rcases hO with ⟨h, _⟩ | ⟨_, h, _⟩ | ⟨_, _, _, rfl, rfl⟩ | ⟨_, _, _, _, rfl, rfl⟩ | ⟨_, _, _, hw, rfl, rfl⟩
    · exact absurd hp h
    · exact absurd h hf
    · exact .inl ⟨.inr rfl, y.eq.symm⟩
    · exact .inl ⟨.inl rfl, y.eq.symm⟩
    · obtain ⟨k1, k2, k3⟩ := Tr.split_facts (fresh := 77) (rw_ := rws) (w := W) (h := H) y.nd hp
      refine .inr ⟨rfl, _, y', k2, .inr ⟨_, y', t0, .inr (.inr ⟨(k1 77).2 (.inr rfl), ?_, ?_, rfl⟩), y.eq⟩⟩
      · have := t0.leaves_pos; omega
      · rw [Tr.kill_split hf y.nd, Tr.fit_id _ _ _ y.ft]
set_option maxHeartbeats 8000000 in
theorem walk_FnSplits (w : World) (a : Option Addr) (len cap : Nat) (l : List UInt8) (ha : At w a (u8s l)) (hl : l.length = len) (hs : len ≤ maxLen)
    (a' : Option Addr) (len' cap' : Nat) (l' : List UInt8) (ha' : At w a' (u8s l')) (hl' : l'.length = len') (hs' : len' ≤ maxLen) (hg : Pow w) :
    Calls Tryd.prog 3 #[.slice a len cap, .slice a' len' cap'] w fun e w' => e = .returned (.bool true) ∧ Below w.heap.size w w' := by
  unfold maxLen at hs hs'
  have HL := Lib.hid hl
  have HL' := Lib.hid hl'
  have HA := Lib.hid ha
  have HA' := Lib.hid ha'
  clear hl hl' ha ha'
  by_cases h1 : 1048576 < len
  · go_enter Tryd.func3, Tryd.ntmps3
    go_wp2
    go_ret
    exact ⟨rfl, Below.refl _ _⟩
  have i1 : (len : Int) ≤ 1048576 := by omega
  by_cases h2 : 1048576 < len'
  · go_enter Tryd.func3, Tryd.ntmps3
    go_wp2
    go_ret
    exact ⟨rfl, Below.refl _ _⟩
  have i2 : (len' : Int) ≤ 1048576 := by omega
  obtain ⟨d0, hd0⟩ : ∃ d : Nat, atV l' 0 21 = d := ⟨_, rfl⟩
  have qd0 : d0 < 21 := by rw [← hd0]; exact atV_lt l' 0 21 (by omega)
  have HTd0 : Hid (∀ W : World, Below w.heap.size w W → Calls Tryd.prog 4 #[.slice a' len' cap', .int .i64 0, .int .i64 21] W fun e w' => e = .returned (.int .i64 (d0 : Int)) ∧ Below W.heap.size W w') := fun W hB => by
    rw [← hd0]; exact at_any a' len' cap' l' W 0 21 (HA'.out.below hB (Nat.le_refl _)) HL'.out (by omega) (by omega) (by omega)
  clear hd0
  obtain ⟨d1, hd1⟩ : ∃ d : Nat, atV l' 1 7 = d := ⟨_, rfl⟩
  have qd1 : d1 < 7 := by rw [← hd1]; exact atV_lt l' 1 7 (by omega)
  have HTd1 : Hid (∀ W : World, Below w.heap.size w W → Calls Tryd.prog 4 #[.slice a' len' cap', .int .i64 1, .int .i64 7] W fun e w' => e = .returned (.int .i64 (d1 : Int)) ∧ Below W.heap.size W w') := fun W hB => by
    rw [← hd1]; exact at_any a' len' cap' l' W 1 7 (HA'.out.below hB (Nat.le_refl _)) HL'.out (by omega) (by omega) (by omega)
  clear hd1
  have ew0 : IntKind.i64.wrap (4 + (d0 : Int)) = 4 + (d0 : Int) := by rw [IntKind.wrap_i64]; omega
  have ew1 : IntKind.i64.wrap (4 + (d1 : Int)) = 4 + (d1 : Int) := by rw [IntKind.wrap_i64]; omega
  obtain ⟨d3, hd3⟩ : ∃ d : Nat, atV l' 3 2 = d := ⟨_, rfl⟩
  have qd3 : d3 < 2 := by rw [← hd3]; exact atV_lt l' 3 2 (by omega)
  have HTd3 : Hid (∀ W : World, Below w.heap.size w W → Calls Tryd.prog 4 #[.slice a' len' cap', .int .i64 3, .int .i64 2] W fun e w' => e = .returned (.int .i64 (d3 : Int)) ∧ Below W.heap.size W w') := fun W hB => by
    rw [← hd3]; exact at_any a' len' cap' l' W 3 2 (HA'.out.below hB (Nat.le_refl _)) HL'.out (by omega) (by omega) (by omega)
  clear hd3
  have HG := Lib.hid hg
  clear hg
  go_enter Tryd.func3, Tryd.ntmps3
  have BB : Below w.heap.size w w := Below.refl _ _
  go_wp2_with fail
  refine (HTd0.out _ BB).mono ?_
  rintro e w1 ⟨rfl, hb⟩
  have hz1 : w.heap.size ≤ w1.heap.size := hb.size
  replace BB : Below w.heap.size w w1 := BB.trans (hb.mono (by omega))
  clear hb
  go_wp2_with fail
  refine (HTd1.out _ BB).mono ?_
  rintro e w2 ⟨rfl, hb⟩
  have hz2 : w1.heap.size ≤ w2.heap.size := hb.size
  replace BB : Below w.heap.size w w2 := BB.trans (hb.mono (by omega))
  clear hb
  have hc0 := BB.size
  go_wp2_with fail
  refine (mkLayout_any _ a len cap l (HA.out.below BB (Nat.le_refl _)) HL.out (by omega) (4 + (d0 : Int)) (4 + (d1 : Int)) (by omega) (by omega) (by omega) (by omega)).mono ?_
  rintro e w3 ⟨a_L, n_L, c_L, ps, t, rfl, hm, hM, hb⟩
  have hz3 : w2.heap.size ≤ w3.heap.size := hb.size
  replace BB : Below w.heap.size w w3 := BB.trans (hb.mono (by omega))
  clear hb
  clear hc0
  have s_L := Sl.of hM
  clear hM
  have HM := Lib.hid hm
  have hy6 := hm.y.len
  have hnL := hm.len
  have hln : n_L ≤ 11 := by omega
  have hln1 : 1 ≤ n_L := by omega
  clear hm hnL hy6
  have hA : Below w3.heap.size w3 (w3.alloc (.cells #[.slice a_L n_L c_L] 26)) := (Below.refl _ _).alloc (Nat.le_refl _) _
  have X_L := Lib.hid (box_new w3 (.cells #[.slice a_L n_L c_L] 26))
  have x_L := box_cells X_L.out
  replace s_L := s_L.below hA (by omega)
  replace BB := BB.trans (hA.mono (by omega))
  clear hA
  obtain ⟨rA, cA, hRA⟩ : ∃ rl cd, AreasR ps (4 + (d0 : Int)) (4 + (d1 : Int)) rl cd ∧ rl = t.areas 0 0 (4 + (d0 : Int)) (4 + (d1 : Int)) ∧ cd = 0 := ⟨_, _, .inr ⟨t, HM.out.y, rfl, rfl⟩, rfl, rfl⟩
  obtain ⟨hRA, hrA, rfl⟩ := hRA
  obtain ⟨nA, hnA⟩ : ∃ n, rA.length = n := ⟨_, rfl⟩
  have hlv := HM.out.y.lv
  have hl1 : 1 ≤ t.leaves := by have := t.len_eq; have := HM.out.y.len; omega
  have hnl : nA = t.leaves := by rw [← hnA, hrA, Tr.length_areas]
  have hnA6 : nA ≤ 6 := by omega
  have hnA1 : 1 ≤ nA := by omega
  have HRA := Lib.hid hRA
  have HrA := Lib.hid hrA
  have HnA := Lib.hid hnA
  have HnL := Lib.hid hnl
  clear hRA hrA hnA hlv hl1 hnl
  go_wp2_with fail
  generalize hv : w3.alloc (.cells #[.slice a_L n_L c_L] 26) = v0 at *
  have hs_v0 : v0.heap.size = w3.heap.size + 1 := by rw [← hv]; simp
  clear hv
  refine (specAreasR_any a_L n_L c_L ps _ _ nA rA 0 _ s_L.at HM.out.len HM.out.cap (by omega) HRA.out HnA.out).mono ?_
  rintro e w4 ⟨a_A, c_A, rfl, hM, hb⟩
  have hz4 : v0.heap.size ≤ w4.heap.size := hb.size
  replace X_L := Lib.hid (box_below X_L.out hb (by omega))
  replace x_L := box_cells X_L.out
  replace s_L := s_L.below hb (by omega)
  replace BB : Below w.heap.size w w4 := BB.trans (hb.mono (by omega))
  clear hb
  have s_A := Sl.of hM
  clear hM
  obtain ⟨d2, hd2⟩ : ∃ d : Nat, atV l' 2 nA = d := ⟨_, rfl⟩
  have qd2 : d2 < nA := by rw [← hd2]; exact atV_lt l' 2 nA (by omega)
  have HTd2 : Hid (∀ W : World, Below w.heap.size w W → Calls Tryd.prog 4 #[.slice a' len' cap', .int .i64 2, .int .i64 nA] W fun e w' => e = .returned (.int .i64 (d2 : Int)) ∧ Below W.heap.size W w') := fun W hB => by
    rw [← hd2]; exact at_any a' len' cap' l' W 2 nA (HA'.out.below hB (Nat.le_refl _)) HL'.out (by omega) (by omega) (by omega)
  clear hd2
  go_wp2_with fail
  refine (HTd2.out _ BB).mono ?_
  rintro e w5 ⟨rfl, hb⟩
  have hz5 : w4.heap.size ≤ w5.heap.size := hb.size
  replace X_L := Lib.hid (box_below X_L.out hb (by omega))
  replace x_L := box_cells X_L.out
  replace s_L := s_L.below hb (by omega)
  replace s_A := s_A.below hb (by omega)
  replace BB : Below w.heap.size w w5 := BB.trans (hb.mono (by omega))
  clear hb
  obtain ⟨q, hq⟩ : ∃ q, rA[d2]? = some q := ⟨rA[d2]'(by rw [HnA.out]; exact qd2), List.getElem?_eq_getElem _⟩
  obtain ⟨bA, oA, rfl, k0, k1, k2, k3, k4⟩ := s_A.at.area hq
  have HPN : Hid (q.pane ∈ t.panes) := areas_pane (by rw [← HrA.out]; exact hq)
  generalize q.pane = pn at *
  clear hq k1 k2 k3 k4
  have j1 : (0 : Int) ≤ (d2 : Int) := by omega
  have j2 : (d2 : Int) < (nA : Int) := by omega
  obtain ⟨rws, hrws⟩ : ∃ b : Bool, ((d3 : Int) == 1) = b := ⟨_, rfl⟩
  have hrws2 : (d3 == 1) = rws := by rw [← hrws, Bool.eq_iff_iff, beq_iff_eq, beq_iff_eq]; omega
  have hrws3 : decide (d3 = 1) = rws := by rw [← hrws2]; rfl
  obtain ⟨rM, cM, hRM, hM13⟩ := splitR_total ps (4 + (d0 : Int)) (4 + (d1 : Int)) pn 77 rws
  obtain ⟨nM, hnM⟩ : ∃ n, rM.length = n := ⟨_, rfl⟩
  have hM13' : nM ≤ 13 := by omega
  have HSO := Lib.hid (splits_ok HM.out.y HPN.out (fun h => absurd (HM.out.pn 77 h) (by decide)) hRM)
  have HRM := Lib.hid hRM
  have HnM := Lib.hid hnM
  clear hRM hnM hM13
  have Bd : Below w5.heap.size w5 w5.drew := (Below.refl _ _).drew
  have Ba : Below w5.heap.size w5 (w5.alloc (.cells #[.slice none 0 0] 26)).drew := ((Below.refl _ _).alloc (Nat.le_refl _) _).drew
  have na : (w5.alloc (.cells #[.slice none 0 0] 26)).drew.heap[w5.heap.size]? = some (.cells #[.slice none 0 0] 26) := heap_alloc_new w5 _
  have sa : (w5.alloc (.cells #[.slice none 0 0] 26)).drew.heap.size = w5.heap.size + 1 := by show (w5.alloc _).heap.size = _; simp
  have lL : w3.heap.size < w5.heap.size := by omega
  have xd := box_cells (box_below X_L.out Bd lL)
  have xa := box_cells (box_below X_L.out Ba lL)
  go_wp2_with fail
  go_cut [11, 12] from 24 (fun v cc wx => ∃ (B : Nat) (am : Option Addr) (cm : Nat), v = .pointer (some ⟨B, 0, none⟩) ∧ cc = .int .i64 cM ∧ Hid (wx.heap[B]? = some (.cells #[.slice am nM cm] 26 (0, 0)) ∧ nM ≤ cm ∧ At wx am (partsV rM) ∧ Below w5.heap.size w5 wx))
  case first =>
    go_region_with (first
      | (have _nd := N6; go_at_call 7; refine (implSplitR_any a_L n_L c_L ps (4 + (d0 : Int)) (4 + (d1 : Int)) pn 77 rws nM rM cM _ (s_L.at.below R6 (by omega)) HM.out.len HM.out.cap (by omega) HRM.out HnM.out).mono ?_; rintro e w7 ⟨aM, kM, rfl, hkM, hmM, hb7⟩; have R7 := R6.trans (hb7.mono R6.size); have N7 := box_below N6 hb7 (box_lt N6); have y7 := box_cells N7; have f7 := box_free N7)
      | (have _nd := R6; go_at_call 7; refine (implSplitR_any a_L n_L c_L ps (4 + (d0 : Int)) (4 + (d1 : Int)) pn 77 rws nM rM cM _ (s_L.at.below R6 (by omega)) HM.out.len HM.out.cap (by omega) HRM.out HnM.out).mono ?_; rintro e w7 ⟨aM, kM, rfl, hkM, hmM, hb7⟩; have R7 := R6.trans (hb7.mono R6.size))
      | (have _nd := R6; go_at_call 7; refine (implSplitR_any a_L n_L c_L ps (4 + (d0 : Int)) (4 + (d1 : Int)) pn 77 rws nM rM cM _ (s_L.at.below R6a (by omega)) HM.out.len HM.out.cap (by omega) HRM.out HnM.out).mono ?_; rintro e w7 ⟨aM, kM, rfl, hkM, hmM, hb7⟩; have R7 := R6a.trans (hb7.mono R6a.size); have N7 := box_below (box_new w6 (.cells #[.slice none 0 0] 26)) hb7 (by simp); have y7 := box_cells N7; have f7 := box_free N7)
      | (go_at_call 4; refine (HTd3.out _ (BB.trans (Bd.mono (by omega)))).mono ?_; rintro e w6 ⟨rfl, hb6⟩; have R6 := Bd.trans (hb6.mono Bd.size); have R6a := R6.alloc R6.size (.cells #[.slice none 0 0] 26); have x6 := box_cells (box_below X_L.out R6 lL); have x6a := box_cells (box_below X_L.out R6a lL))
      | (go_at_call 4; refine (HTd3.out _ (BB.trans (Ba.mono (by omega)))).mono ?_; rintro e w6 ⟨rfl, hb6⟩; have R6 := Ba.trans (hb6.mono Ba.size); have N6 := box_below na hb6 (by omega); have x6 := box_cells (box_below X_L.out R6 lL))
      | fail)
    all_goals
      go_wp2_with fail
      go_meet
      case rel =>
        have hz6 := R6.size
        first
          | exact ⟨_, aM, kM, rfl, rfl, ⟨heap_alloc_new _ _, hkM, hmM.at.below ((Below.refl _ _).alloc (Nat.le_refl _) _) (Nat.le_refl _), R7.alloc R7.size _⟩⟩
          | exact ⟨_, aM, kM, rfl, rfl, ⟨set_heap N7 0 _, hkM, (hmM.set_oth (by dsimp only; first | omega | (have := box_lt N6; omega) | simp) _).at, R7.setCell (by dsimp only; omega) _⟩⟩
  clear Bd Ba na sa lL xd xa
  obtain ⟨B_m, a_m, c_m, rfl, rfl, hr0⟩ := hcut
  obtain ⟨hrm, k_m, hatm, hb⟩ := hr0.out
  clear hr0
  generalize wc = w6 at *
  have hz6 : w5.heap.size ≤ w6.heap.size := hb.size
  replace X_L := Lib.hid (box_below X_L.out hb (by omega))
  replace x_L := box_cells X_L.out
  replace s_L := s_L.below hb (by omega)
  replace s_A := s_A.below hb (by omega)
  replace BB : Below w.heap.size w w6 := BB.trans (hb.mono (by omega))
  have lB_m := box_lt hrm
  have X_m := Lib.hid hrm
  have x_m := box_cells X_m.out
  have s_m := hatm
  clear hb hrm hatm
  have Bd : Below w6.heap.size w6 w6.drew := (Below.refl _ _).drew
  have Ba : Below w6.heap.size w6 (w6.alloc (.cells #[.slice none 0 0] 26)).drew := ((Below.refl _ _).alloc (Nat.le_refl _) _).drew
  have na : (w6.alloc (.cells #[.slice none 0 0] 26)).drew.heap[w6.heap.size]? = some (.cells #[.slice none 0 0] 26) := heap_alloc_new w6 _
  have sa : (w6.alloc (.cells #[.slice none 0 0] 26)).drew.heap.size = w6.heap.size + 1 := by show (w6.alloc _).heap.size = _; simp
  have lL : w3.heap.size < w6.heap.size := by omega
  have xd := box_cells (box_below X_L.out Bd lL)
  have xa := box_cells (box_below X_L.out Ba lL)
  go_wp2_with fail
  go_cut [13, 14] from 24 (fun v cc wx => ∃ (B : Nat) (am : Option Addr) (cm : Nat), v = .pointer (some ⟨B, 0, none⟩) ∧ cc = .int .i64 cM ∧ Hid (wx.heap[B]? = some (.cells #[.slice am nM cm] 26 (0, 0)) ∧ nM ≤ cm ∧ At wx am (partsV rM) ∧ Below w6.heap.size w6 wx))
  case first =>
    go_region_with (first
      | (have _nd := N6; go_at_call 8; refine (specSplitR_any a_L n_L c_L ps (4 + (d0 : Int)) (4 + (d1 : Int)) pn 77 rws nM rM cM _ (s_L.at.below R6 (by omega)) HM.out.len HM.out.cap (by omega) HRM.out HnM.out).mono ?_; rintro e w7 ⟨aM, kM, rfl, hkM, hmM, hb7⟩; have R7 := R6.trans (hb7.mono R6.size); have N7 := box_below N6 hb7 (box_lt N6); have y7 := box_cells N7; have f7 := box_free N7)
      | (have _nd := R6; go_at_call 8; refine (specSplitR_any a_L n_L c_L ps (4 + (d0 : Int)) (4 + (d1 : Int)) pn 77 rws nM rM cM _ (s_L.at.below R6 (by omega)) HM.out.len HM.out.cap (by omega) HRM.out HnM.out).mono ?_; rintro e w7 ⟨aM, kM, rfl, hkM, hmM, hb7⟩; have R7 := R6.trans (hb7.mono R6.size))
      | (have _nd := R6; go_at_call 8; refine (specSplitR_any a_L n_L c_L ps (4 + (d0 : Int)) (4 + (d1 : Int)) pn 77 rws nM rM cM _ (s_L.at.below R6a (by omega)) HM.out.len HM.out.cap (by omega) HRM.out HnM.out).mono ?_; rintro e w7 ⟨aM, kM, rfl, hkM, hmM, hb7⟩; have R7 := R6a.trans (hb7.mono R6a.size); have N7 := box_below (box_new w6 (.cells #[.slice none 0 0] 26)) hb7 (by simp); have y7 := box_cells N7; have f7 := box_free N7)
      | (go_at_call 4; refine (HTd3.out _ (BB.trans (Bd.mono (by omega)))).mono ?_; rintro e w6 ⟨rfl, hb6⟩; have R6 := Bd.trans (hb6.mono Bd.size); have R6a := R6.alloc R6.size (.cells #[.slice none 0 0] 26); have x6 := box_cells (box_below X_L.out R6 lL); have x6a := box_cells (box_below X_L.out R6a lL))
      | (go_at_call 4; refine (HTd3.out _ (BB.trans (Ba.mono (by omega)))).mono ?_; rintro e w6 ⟨rfl, hb6⟩; have R6 := Ba.trans (hb6.mono Ba.size); have N6 := box_below na hb6 (by omega); have x6 := box_cells (box_below X_L.out R6 lL))
      | fail)
    all_goals
      go_wp2_with fail
      go_meet
      case rel =>
        have hz6 := R6.size
        first
          | exact ⟨_, aM, kM, rfl, rfl, ⟨heap_alloc_new _ _, hkM, hmM.at.below ((Below.refl _ _).alloc (Nat.le_refl _) _) (Nat.le_refl _), R7.alloc R7.size _⟩⟩
          | exact ⟨_, aM, kM, rfl, rfl, ⟨set_heap N7 0 _, hkM, (hmM.set_oth (by dsimp only; first | omega | (have := box_lt N6; omega) | simp) _).at, R7.setCell (by dsimp only; omega) _⟩⟩
  clear Bd Ba na sa lL xd xa
  obtain ⟨B_t, a_t, c_t, rfl, rfl, hr0⟩ := hcut
  obtain ⟨hrm, k_t, hatm, hb⟩ := hr0.out
  clear hr0
  generalize wc = w7 at *
  have hz7 : w6.heap.size ≤ w7.heap.size := hb.size
  replace X_L := Lib.hid (box_below X_L.out hb (by omega))
  replace x_L := box_cells X_L.out
  replace X_m := Lib.hid (box_below X_m.out hb (by omega))
  replace x_m := box_cells X_m.out
  replace s_L := s_L.below hb (by omega)
  replace s_A := s_A.below hb (by omega)
  replace s_m := s_m.below hb (by omega)
  replace BB : Below w.heap.size w w7 := BB.trans (hb.mono (by omega))
  have lB_t := box_lt hrm
  have X_t := Lib.hid hrm
  have x_t := box_cells X_t.out
  have s_t := hatm
  clear hb hrm hatm
  go_wp2_with fail
  refine (sameParts_same a_m a_t nM c_m c_t rM _ s_m s_t HnM.out (by omega)).mono ?_
  rintro e w8 ⟨rfl, hb⟩
  have hz8 : w7.heap.size ≤ w8.heap.size := hb.size
  replace X_L := Lib.hid (box_below X_L.out hb (by omega))
  replace x_L := box_cells X_L.out
  replace X_m := Lib.hid (box_below X_m.out hb (by omega))
  replace x_m := box_cells X_m.out
  replace X_t := Lib.hid (box_below X_t.out hb (by omega))
  replace x_t := box_cells X_t.out
  replace s_L := s_L.below hb (by omega)
  replace s_A := s_A.below hb (by omega)
  replace s_m := s_m.below hb (by omega)
  replace s_t := s_t.below hb (by omega)
  replace BB : Below w.heap.size w w8 := BB.trans (hb.mono (by omega))
  clear hb
  rcases HSO.out with ⟨hc, hr⟩ | ⟨hc, t', hy', hlv, hK⟩
  · have hn : nM = n_L := by rw [← HnM.out, hr]; exact HM.out.len
    subst hn
    rw [hr] at s_m
    have HC := Lib.hid (sameParts_same a_m a_L nM c_m c_L ps w8 s_m s_L.at HM.out.len (by omega))
    clear hr HRM HnM HSO
    rcases hc with h | h
    all_goals
      subst h
      go_wp2_with fail
      refine HC.out.mono ?_
      rintro e w90 ⟨rfl, hb⟩
      have HBB := Lib.hid (BB.trans (hb.mono (by have := BB.size; omega)))
      clear hb
      go_wp2_with fail
      go_ret
      exact ⟨rfl, HBB.out⟩
  subst hc
  obtain ⟨rN, hrN⟩ : ∃ r, r = t'.areas 0 0 (4 + (d0 : Int)) (4 + (d1 : Int)) := ⟨_, rfl⟩
  obtain ⟨nN, e1, e2⟩ : ∃ n : Nat, n ≤ nA + 1 ∧ nA + 1 ≤ n := ⟨_, Nat.le_refl _, Nat.le_refl _⟩
  have hnN : rN.length = nN := by have := HnL.out; rw [hrN, Tr.length_areas, hlv]; omega
  have ewN : IntKind.i64.wrap ((nA : Int) + 1) = (nN : Int) := by rw [IntKind.wrap_i64] <;> omega
  have HnN := Lib.hid hnN
  have HRN : Hid (AreasR rM (4 + (d0 : Int)) (4 + (d1 : Int)) rN 0) := .inr ⟨t', hy', hrN, rfl⟩
  have HK := Lib.hid hK
  obtain ⟨tx, htx⟩ : ∃ x, x = t.textB := ⟨_, rfl⟩
  have HTX : Hid (TextR ps (4 + (d0 : Int)) (4 + (d1 : Int)) tx 0) := .inr ⟨t, HM.out.y, htx, rfl⟩
  clear hnN hrN hlv hy' hK htx HSO
  go_wp2_with fail
  refine (implAreasR_any a_m nM c_m rM _ _ nN rN 0 _ s_m HnM.out k_m (by omega) HRN.out HnN.out).mono ?_
  rintro e w9 ⟨a_N, c_N, rfl, hM, hb⟩
  have hz9 : w8.heap.size ≤ w9.heap.size := hb.size
  replace X_L := Lib.hid (box_below X_L.out hb (by omega))
  replace x_L := box_cells X_L.out
  replace X_m := Lib.hid (box_below X_m.out hb (by omega))
  replace x_m := box_cells X_m.out
  replace X_t := Lib.hid (box_below X_t.out hb (by omega))
  replace x_t := box_cells X_t.out
  replace s_L := s_L.below hb (by omega)
  replace s_A := s_A.below hb (by omega)
  replace s_m := s_m.below hb (by omega)
  replace s_t := s_t.below hb (by omega)
  replace BB : Below w.heap.size w w9 := BB.trans (hb.mono (by omega))
  clear hb
  have s_N := Sl.of hM
  clear hM
  have hc0 := BB.size
  go_wp2_with fail
  refine (implKillR_any a_m nM c_m rM (4 + (d0 : Int)) (4 + (d1 : Int)) 77 n_L ps 0 _ s_m HnM.out k_m (by omega) HK.out HM.out.len).mono ?_
  rintro e w10 ⟨a_K, c_K, rfl, k_K, hM, hb⟩
  have hz10 : w9.heap.size ≤ w10.heap.size := hb.size
  replace X_L := Lib.hid (box_below X_L.out hb (by omega))
  replace x_L := box_cells X_L.out
  replace X_m := Lib.hid (box_below X_m.out hb (by omega))
  replace x_m := box_cells X_m.out
  replace X_t := Lib.hid (box_below X_t.out hb (by omega))
  replace x_t := box_cells X_t.out
  replace s_L := s_L.below hb (by omega)
  replace s_A := s_A.below hb (by omega)
  replace s_m := s_m.below hb (by omega)
  replace s_t := s_t.below hb (by omega)
  replace s_N := s_N.below hb (by omega)
  replace BB : Below w.heap.size w w10 := BB.trans (hb.mono (by omega))
  clear hb
  clear hc0
  have s_K := Sl.of hM
  clear hM
  have hA : Below w10.heap.size w10 (w10.alloc (.cells #[.slice a_K n_L c_K] 26)) := (Below.refl _ _).alloc (Nat.le_refl _) _
  replace X_L := Lib.hid (box_below X_L.out hA (by omega))
  replace x_L := box_cells X_L.out
  replace X_m := Lib.hid (box_below X_m.out hA (by omega))
  replace x_m := box_cells X_m.out
  replace X_t := Lib.hid (box_below X_t.out hA (by omega))
  replace x_t := box_cells X_t.out
  have X_K := Lib.hid (box_new w10 (.cells #[.slice a_K n_L c_K] 26))
  have x_K := box_cells X_K.out
  replace s_L := s_L.below hA (by omega)
  replace s_A := s_A.below hA (by omega)
  replace s_m := s_m.below hA (by omega)
  replace s_t := s_t.below hA (by omega)
  replace s_N := s_N.below hA (by omega)
  replace s_K := s_K.below hA (by omega)
  replace BB := BB.trans (hA.mono (by omega))
  clear hA
  go_wp2_with fail
  generalize hv : w10.alloc (.cells #[.slice a_K n_L c_K] 26) = v1 at *
  have hs_v1 : v1.heap.size = w10.heap.size + 1 := by rw [← hv]; simp
  clear hv
  refine (implText_any a_L n_L c_L ps (4 + (d0 : Int)) (4 + (d1 : Int)) tx 0 _ (HG.out.below BB (Nat.le_refl _)) s_L.at HM.out.len HM.out.cap (by omega) HTX.out).mono ?_
  rintro e w11 ⟨rfl, hb⟩
  have hz11 : v1.heap.size ≤ w11.heap.size := hb.size
  replace X_L := Lib.hid (box_below X_L.out hb (by omega))
  replace x_L := box_cells X_L.out
  replace X_m := Lib.hid (box_below X_m.out hb (by omega))
  replace x_m := box_cells X_m.out
  replace X_t := Lib.hid (box_below X_t.out hb (by omega))
  replace x_t := box_cells X_t.out
  replace X_K := Lib.hid (box_below X_K.out hb (by omega))
  replace x_K := box_cells X_K.out
  replace s_L := s_L.below hb (by omega)
  replace s_A := s_A.below hb (by omega)
  replace s_m := s_m.below hb (by omega)
  replace s_t := s_t.below hb (by omega)
  replace s_N := s_N.below hb (by omega)
  replace s_K := s_K.below hb (by omega)
  replace BB : Below w.heap.size w w11 := BB.trans (hb.mono (by omega))
  clear hb
  go_wp2_with fail
  refine (implText_any a_K n_L c_K ps (4 + (d0 : Int)) (4 + (d1 : Int)) tx 0 _ (HG.out.below BB (Nat.le_refl _)) s_K.at HM.out.len k_K (by omega) HTX.out).mono ?_
  rintro e w12 ⟨rfl, hb⟩
  have hz12 : w11.heap.size ≤ w12.heap.size := hb.size
  replace X_L := Lib.hid (box_below X_L.out hb (by omega))
  replace x_L := box_cells X_L.out
  replace X_m := Lib.hid (box_below X_m.out hb (by omega))
  replace x_m := box_cells X_m.out
  replace X_t := Lib.hid (box_below X_t.out hb (by omega))
  replace x_t := box_cells X_t.out
  replace X_K := Lib.hid (box_below X_K.out hb (by omega))
  replace x_K := box_cells X_K.out
  replace s_L := s_L.below hb (by omega)
  replace s_A := s_A.below hb (by omega)
  replace s_m := s_m.below hb (by omega)
  replace s_t := s_t.below hb (by omega)
  replace s_N := s_N.below hb (by omega)
  replace s_K := s_K.below hb (by omega)
  replace BB : Below w.heap.size w w12 := BB.trans (hb.mono (by omega))
  clear hb
  go_wp2_with fail
  go_ret
  exact ⟨rfl, BB⟩
end Go.Proofs.YtaacccooidehlaaDoor
