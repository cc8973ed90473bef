/-
  Contract of the reference's l05OK: whether a list of parts is a layout. Conditions: the parts lie as the cells say.
-/
import Derived.Test.YtaacccooidehlaaDoorLayWalk
import Derived.BigQuiet
namespace Go.Proofs.YtaacccooidehlaaDoor
open Go.ChangeShapes Go.WideShapes Go.ChangeAt Go.RowKit
set_option linter.unusedVariables false
set_option linter.unusedSimpArgs false
set_option maxRecDepth 100000

theorem Tr.parts_panes : ∀ (t : Tr) (k : Nat) (w h : Int), t.fits w h → ((t.parts k).map (·.pane)).filter (fun x => decide (x ≠ 0)) = t.panes
  | .leaf p, k, w, h, f => by
    have : p ≠ 0 := by have := f.2.2.1; omega
    simp [Tr.parts, Tr.panes, this]
  | .node rows size l r, k, w, h, f => by
    simp only [Tr.parts, Tr.panes, List.map_cons, List.map_append, List.filter_cons, List.filter_append]
    rw [l.parts_panes _ _ _ f.1, r.parts_panes _ _ _ f.2]
    simp
def PairsOK (ps : List PartV) : Prop := ∀ (i k : Nat) (p q : PartV), k < i → ps[i]? = some p → ps[k]? = some q → p.pane ≠ 0 → p.pane ≠ q.pane
theorem pairs_nodup {t : Tr} {w h : Int} (f : t.fits w h) : PairsOK (t.parts 0) ↔ t.panes.Nodup := by
  rw [← t.parts_panes 0 w h f]
  unfold List.Nodup
  rw [List.pairwise_filter, List.pairwise_map, List.pairwise_iff_getElem]
  constructor
  · intro H i j hi hj hij h1 h2 e
    exact H j i _ _ hij (List.getElem?_eq_getElem hj) (List.getElem?_eq_getElem hi) (of_decide_eq_true h2) e.symm
  · intro H i k p q hki hp hq h0 e
    obtain ⟨hi, rfl⟩ := List.getElem?_eq_some_iff.1 hp
    obtain ⟨hk, rfl⟩ := List.getElem?_eq_some_iff.1 hq
    exact H k i hk hi hki (decide_eq_true (by rw [← e]; exact h0)) (decide_eq_true h0) e.symm
theorem okL_size {ps : List PartV} {a b : Int} (h : sizeB a b = false) : okL ps a b = false := okL_false fun t y => by
  unfold sizeB at h
  exact of_decide_eq_false h ⟨y.w1, y.w2, y.h1, y.h2⟩
theorem okL_len {ps : List PartV} {a b : Int} (h : ¬ (1 ≤ ps.length ∧ ps.length ≤ 11)) : okL ps a b = false := okL_false fun t y => by
  have h1 := congrArg List.length y.eq
  rw [Tr.length_parts] at h1
  have h2 := t.len_eq
  have h3 := t.leaves_pos
  have h4 := y.lv
  omega
theorem okL_walk {ps : List PartV} {a b : Int} (h : walkS ps (ps.length + 1) 0 a b ≠ some ps.length) : okL ps a b = false := okL_false fun t y => by
  have h1 := congrArg List.length y.eq
  rw [Tr.length_parts] at h1
  have hp : PartsAt ps 0 t := by rw [y.eq]; exact PartsAt.self t
  have h2 := walkS_complete ps t (ps.length + 1) 0 a b hp y.ft (by have := y.w2; omega) (by have := y.h2; omega) (by omega)
  exact h (by rw [h2]; congr 1; omega)
theorem okL_pair {ps : List PartV} {a b : Int} (h : ¬ PairsOK ps) : okL ps a b = false := okL_false fun t y => h (by rw [y.eq]; exact (pairs_nodup y.ft).2 y.nd)
theorem okL_yes {ps : List PartV} {a b : Int} (hs : sizeB a b = true) (hl : ps.length ≤ 11) (hw : walkS ps (ps.length + 1) 0 a b = some ps.length) (hp : PairsOK ps) : okL ps a b = true := by
  unfold sizeB at hs
  obtain ⟨s1, s2, s3, s4⟩ := of_decide_eq_true hs
  obtain ⟨t, hpa, he, hf⟩ := walkS_sound ps _ _ _ _ _ hw (by omega) (by omega)
  have heq := hpa.all (by omega)
  have h2 := t.len_eq
  exact okL_true (t := t) ⟨s1, s2, s3, s4, by omega, heq, hf, (pairs_nodup hf).1 (by rw [← heq]; exact hp)⟩
theorem l04Size_any (a b : Int) (w : World) :
    Calls Tryd.prog 32 #[.int .i64 a, .int .i64 b] w fun e w' => e = .returned (.bool (sizeB a b)) ∧ w = w' := by
  go_enter Tryd.func32, Tryd.ntmps32
  go_wp2_with (go_at_call 21; refine (l01In_any _ _ _ _).mono ?_; rintro e w' ⟨rfl, rfl⟩)
  all_goals
    go_ret
    exact ⟨ret_bool (by unfold sizeB; rw [Bool.eq_iff_iff]; first | (simp_all; done) | (simp_all; omega)), rfl⟩
set_option maxHeartbeats 8000000 in
theorem l05OK_any (ao : Option Addr) (len cap : Nat) (ps : List PartV) (hl : ps.length = len) (hn : len ≤ 2000000) (hlc : len ≤ cap) (a b : Int) (w : World) (ha : At w ao (partsV ps)) :
    Calls Tryd.prog 15 #[.agg #[.slice ao len cap], .int .i64 a, .int .i64 b] w (fun e w' => e = .returned (.bool (okL ps a b)) ∧ Below w.heap.size w w') := by
  have HB : Hid (Below w.heap.size w (w.alloc (.cells #[.slice ao len cap] 26))) := (Below.refl _ _).alloc (Nat.le_refl _) _
  obtain ⟨R, hR⟩ : ∃ R, okL ps a b = R := ⟨_, rfl⟩
  rw [hR]
  have HR := Lib.hid hR
  cases hs : sizeB a b
  · have HF : Hid (R = false) := by show _ = _; rw [← hR]; exact okL_size hs
    have HC : Hid (∀ W : World, Calls Tryd.prog 32 #[.int .i64 a, .int .i64 b] W fun e w' => e = .returned (.bool false) ∧ W = w') := fun W => by have h := l04Size_any a b W; rw [hs] at h; exact h
    clear hR HR hs ha
    go_enter Tryd.func15, Tryd.ntmps15
    go_wp2_with (go_at_call 32; refine (HC.out _).mono ?_; rintro e w' ⟨rfl, rfl⟩)
    go_ret
    exact ⟨ret_bool HF.out.symm, HB.out⟩
  · have HC : Hid (∀ W : World, Calls Tryd.prog 32 #[.int .i64 a, .int .i64 b] W fun e w' => e = .returned (.bool true) ∧ W = w') := fun W => by have h := l04Size_any a b W; rw [hs] at h; exact h
    by_cases hn2 : 1 ≤ len ∧ len ≤ 11
    · have HC2 : Hid (∀ W : World, Calls Tryd.prog 21 #[.int .i64 (len : Int), .int .i64 1, .int .i64 11] W fun e w' => e = .returned (.bool true) ∧ W = w') := fun W => by
        have h := l01In_any (len : Int) 1 11 W
        rw [show (decide ((1 : Int) ≤ (len : Int)) && decide ((len : Int) ≤ 11)) = true from by simp; omega] at h
        exact h
      have hsz : 2 ≤ a ∧ a ≤ 24 ∧ 2 ≤ b ∧ b ≤ 10 := by unfold sizeB at hs; exact of_decide_eq_true hs
      have HW := Lib.hid (l05Walk_any ao len cap ps hl (by omega) hlc (len + 1) 0 a b _ (ha.below HB.out (Nat.le_refl _)) (by omega) (by omega) (by omega) (by omega) (by omega) (by omega))
      have HA := Lib.hid ha
      have HX0 : Hid ((w.alloc (.cells #[.slice ao len cap] 26)).heap[w.heap.size]? = some (.cells #[.slice ao len cap] 26 (0, 0))) := heap_alloc_new w _
      have HS := Lib.hid hs
      have HL := Lib.hid hl
      clear hR hs ha hl hsz
      go_enter Tryd.func15, Tryd.ntmps15
      go_wp2_with (first | (go_at_call 32; refine (HC.out _).mono ?_; rintro e w' ⟨rfl, rfl⟩) | (go_at_call 21; refine (HC2.out _).mono ?_; rintro e w' ⟨rfl, rfl⟩) | fail)
      refine HW.out.mono ?_
      clear HW HC HC2
      generalize (w.alloc (.cells #[.slice ao len cap] 26)) = V at *
      rintro e w1 ⟨hb1, ⟨hw1, x, rfl⟩ | ⟨en, hw1, rfl⟩⟩
      · have HF : Hid (R = false) := by show _ = _; rw [← HR.out]; exact okL_walk (by rw [HL.out, hw1]; simp)
        have HB1 : Hid (Below w.heap.size w w1) := HB.out.trans (hb1.mono HB.out.size)
        clear hw1 hb1
        go_wp2
        go_ret
        exact ⟨ret_bool HF.out.symm, HB1.out⟩
      · have HB1 : Hid (Below w.heap.size w w1) := HB.out.trans (hb1.mono HB.out.size)
        have HX1 : Hid (w1.heap[w.heap.size]? = some (.cells #[.slice ao len cap] 26 (0, 0))) := (hb1.block _ (box_lt HX0.out)).trans HX0.out
        have x0 := box_cells HX1.out 0
        simp at x0
        by_cases hen : en = len
        · have HWK : Hid (walkS ps (ps.length + 1) 0 a b = some ps.length) := by show _ = _; rw [HL.out, hw1, hen]
          have bq : ((en : Int) != (len : Int)) = false := by simp [hen]
          clear hw1 hb1 hen HX0 HB
          go_wp2
          go_loopw [9] (fun i wr => ∃ k : Nat, k ≤ len ∧ i = .int .i64 k ∧ Hid (∀ (i j : Nat) (p q : PartV), i < k → j < i → ps[i]? = some p → ps[j]? = some q → p.pane ≠ 0 → p.pane ≠ q.pane) ∧ Below w1.heap.size w1 wr) (fun i _ => len - (intOf i).toNat)
          case atStart => exact ⟨0, Nat.zero_le _, rfl, fun i j p q h => absurd h (by omega), Below.refl _ _⟩
          case round =>
            obtain ⟨i, hi, rfl, hall, hbel⟩ := hrel
            have x1 := box_cells ((hbel.block _ (box_lt HX1.out)).trans HX1.out) 0
            simp at x1
            by_cases hil : i < len
            · obtain ⟨p, hp⟩ : ∃ p, ps[i]? = some p := ⟨ps[i]'(by have := HL.out; omega), List.getElem?_eq_getElem _⟩
              have HP := Lib.hid hp
              have i1 : (0 : Int) ≤ (i : Int) := by omega
              have i2 : (i : Int) < (len : Int) := by omega
              clear hp
              go_wp2
              clear x1
              have HBO := hbel
              clear hbel
              go_loopw [10] (fun k wx => ∃ j : Nat, j ≤ i ∧ k = .int .i64 j ∧ Hid (∀ (m : Nat) (q : PartV), m < j → ps[m]? = some q → p.pane ≠ 0 → p.pane ≠ q.pane) ∧ Below w1.heap.size w1 wx) (fun k _ => i - (intOf k).toNat)
              case atStart => exact ⟨0, Nat.zero_le _, rfl, fun m q h => absurd h (by omega), HBO⟩
              case round =>
                obtain ⟨j, hj, rfl, hin, hbel⟩ := hrel
                have x1 := box_cells ((hbel.block _ (box_lt HX1.out)).trans HX1.out) 0
                simp at x1
                by_cases hji : j < i
                · obtain ⟨q, hq⟩ : ∃ q, ps[j]? = some q := ⟨ps[j]'(by have := HL.out; omega), List.getElem?_eq_getElem _⟩
                  have hat := HA.out.below (HB1.out.trans (hbel.mono HB1.out.size)) (Nat.le_refl _)
                  obtain ⟨blk, off, rfl, c0, _⟩ := hat.part HP.out
                  obtain ⟨blk', off', e, d0, _⟩ := hat.part hq
                  injection e with e
                  injection e with e1 e2
                  subst e1 e2
                  have HQ := Lib.hid hq
                  have j1 : (0 : Int) ≤ (j : Int) := by omega
                  have j2 : (j : Int) < (len : Int) := by omega
                  have j3 : (j : Int) < (i : Int) := by omega
                  have HBC := Lib.hid hbel
                  clear hat hq hbel x0
                  by_cases hp0 : p.pane = 0
                  · have bp : ((p.pane : Int) != 0) = false := by simp [hp0]
                    have HIN : Hid (∀ (m : Nat) (q : PartV), m < j + 1 → ps[m]? = some q → p.pane ≠ 0 → p.pane ≠ q.pane) := fun m q _ _ h => absurd hp0 h
                    clear hin hp0
                    go_wp2
                    go_quiet (fail)
                    go_wp2
                    go_roundw
                    case rel => exact ⟨j + 1, by omega, by go_num, HIN, HBC.out.trans ⟨rfl, rfl, rfl, Nat.le_refl _, fun _ _ => rfl⟩⟩
                    case measure => simp [intOf]; omega
                  · have bp : ((p.pane : Int) != 0) = true := by simp [hp0]
                    by_cases hpq : p.pane = q.pane
                    · have HF : Hid (R = false) := by show _ = _; rw [← HR.out]; exact okL_pair fun h => h i j p q hji HP.out HQ.out hp0 hpq
                      have HB2 : Hid (∀ W, Below w1.heap.size wr W → Below w.heap.size w W) := fun W h => HB1.out.trans ((HBC.out.trans h).mono HB1.out.size)
                      have bq : ((p.pane : Int) == q.pane) = true := by simp [hpq]
                      clear hin hp0 hpq hall
                      go_wp2
                      go_quiet (fail)
                      go_wp2
                      go_ret
                      exact ⟨ret_bool HF.out.symm, HB2.out _ ⟨rfl, rfl, rfl, Nat.le_refl _, fun _ _ => rfl⟩⟩
                    · have HIN : Hid (∀ (m : Nat) (q : PartV), m < j + 1 → ps[m]? = some q → p.pane ≠ 0 → p.pane ≠ q.pane) := fun m q' h1 h2 h3 => by
                        by_cases e : m = j
                        · subst e
                          rw [HQ.out] at h2
                          injection h2 with h2
                          subst h2
                          exact hpq
                        · exact hin.out m q' (by omega) h2 h3
                      have bq : ((p.pane : Int) == q.pane) = false := by simp [hpq]
                      clear hin hp0 hpq
                      go_wp2
                      go_quiet (fail)
                      go_wp2
                      go_roundw
                      case rel => exact ⟨j + 1, by omega, by go_num, HIN, HBC.out.trans ⟨rfl, rfl, rfl, Nat.le_refl _, fun _ _ => rfl⟩⟩
                      case measure => simp [intOf]; omega
                · have HALL : Hid (∀ (i' j : Nat) (p q : PartV), i' < i + 1 → j < i' → ps[i']? = some p → ps[j]? = some q → p.pane ≠ 0 → p.pane ≠ q.pane) := fun i' j' p' q' h1 h2 h3 h4 h5 => by
                    by_cases e : i' = i
                    · subst e
                      rw [HP.out] at h3
                      injection h3 with h3
                      subst h3
                      exact hin.out j' q' (by omega) h4 h5
                    · exact hall.out i' j' p' q' (by omega) h2 h3 h4 h5
                  clear hin hall
                  go_wp2
                  go_roundw
                  case rel => exact ⟨i + 1, by omega, by go_num, HALL, hbel⟩
                  case measure => simp [intOf]; omega
            · have HT : Hid (R = true) := by
                show _ = _
                rw [← HR.out]
                exact okL_yes HS.out (by have := HL.out; omega) HWK.out (fun i' j' p' q' h1 h2 h3 h4 => hall.out i' j' p' q' (by have := (List.getElem?_eq_some_iff.1 h2).1; have := HL.out; omega) h1 h2 h3 h4)
              have HB2 : Hid (Below w.heap.size w wr) := HB1.out.trans (hbel.mono HB1.out.size)
              clear hall hbel
              go_wp2
              go_ret
              exact ⟨ret_bool HT.out.symm, HB2.out⟩
        · have HF : Hid (R = false) := by show _ = _; rw [← HR.out]; exact okL_walk (by rw [HL.out, hw1]; simp [hen])
          have bq : ((en : Int) != (len : Int)) = true := by simp; omega
          clear hw1 hb1 hen
          go_wp2
          go_ret
          exact ⟨ret_bool HF.out.symm, HB1.out⟩
    · have HF : Hid (R = false) := by show _ = _; rw [← hR]; exact okL_len (by omega)
      have HC2 : Hid (∀ W : World, Calls Tryd.prog 21 #[.int .i64 (len : Int), .int .i64 1, .int .i64 11] W fun e w' => e = .returned (.bool false) ∧ W = w') := fun W => by
        have h := l01In_any (len : Int) 1 11 W
        rw [show (decide ((1 : Int) ≤ (len : Int)) && decide ((len : Int) ≤ 11)) = false from by rw [Bool.eq_false_iff]; simp; omega] at h
        exact h
      clear hR HR hs ha hn2
      go_enter Tryd.func15, Tryd.ntmps15
      go_wp2_with (first | (go_at_call 32; refine (HC.out _).mono ?_; rintro e w' ⟨rfl, rfl⟩) | (go_at_call 21; refine (HC2.out _).mono ?_; rintro e w' ⟨rfl, rfl⟩) | fail)
      go_ret
      exact ⟨ret_bool HF.out.symm, HB.out⟩
end Go.Proofs.YtaacccooidehlaaDoor
