/-
  Contracts of the reference's l05Parts and l05Walk: a list of parts walked over. Conditions: the parts lie as the cells say, bounds.
-/
import Derived.Test.YtaacccooidehlaaDoorLayTree
namespace Go.Proofs.YtaacccooidehlaaDoor
open Go.ChangeShapes Go.WideShapes Go.ChangeAt Go.RowKit
set_option linter.unusedVariables false
set_option linter.unusedSimpArgs false
set_option maxRecDepth 100000

section
variable {l : List PartV} {f k : Nat} {p : PartV} {w h : Int}
theorem walkS_end (hp : l[k]? = none) : walkS l (f + 1) k w h = none := by rw [walkS, hp]
theorem walkS_small (hp : l[k]? = some p) (hs : w < 2 ∨ h < 2) : walkS l (f + 1) k w h = none := by
  rw [walkS, hp]; simp only; rw [if_pos hs]
theorem walkS_leaf (hp : l[k]? = some p) (h1 : 2 ≤ w) (h2 : 2 ≤ h) (hl : p.left = -1) : walkS l (f + 1) k w h = if p.right = -1 ∧ p.rows = false ∧ p.size = 0 ∧ 1 ≤ p.pane ∧ p.pane ≤ 1000 then some (k + 1) else none := by
  rw [walkS, hp]; simp only; rw [if_neg (by omega), if_pos hl]
theorem walkS_bad1 (hp : l[k]? = some p) (h1 : 2 ≤ w) (h2 : 2 ≤ h) (hl : p.left ≠ -1) (hc : p.pane ≠ 0 ∨ p.left ≠ (k + 1 : Nat)) : walkS l (f + 1) k w h = none := by
  rw [walkS, hp]; simp only; rw [if_neg (by omega), if_neg hl, if_pos hc]
theorem walkS_left (hp : l[k]? = some p) (h1 : 2 ≤ w) (h2 : 2 ≤ h) (hl : p.left ≠ -1) (h0 : p.pane = 0) (h3 : p.left = (k + 1 : Nat)) (hw : walkS l f (k + 1) (lwOf p.rows (clampS p.size) w) (lhOf p.rows (clampS p.size) h) = none) : walkS l (f + 1) k w h = none := by
  rw [walkS, hp]; simp only; rw [if_neg (by omega), if_neg hl, if_neg (by simp [h0, h3]), hw]
theorem walkS_bad2 {e : Nat} (hp : l[k]? = some p) (h1 : 2 ≤ w) (h2 : 2 ≤ h) (hl : p.left ≠ -1) (h0 : p.pane = 0) (h3 : p.left = (k + 1 : Nat)) (hw : walkS l f (k + 1) (lwOf p.rows (clampS p.size) w) (lhOf p.rows (clampS p.size) h) = some e) (hr : p.right ≠ (e : Nat)) : walkS l (f + 1) k w h = none := by
  rw [walkS, hp]; simp only; rw [if_neg (by omega), if_neg hl, if_neg (by simp [h0, h3]), hw]; simp only; rw [if_pos hr]
theorem walkS_right {e : Nat} (hp : l[k]? = some p) (h1 : 2 ≤ w) (h2 : 2 ≤ h) (hl : p.left ≠ -1) (h0 : p.pane = 0) (h3 : p.left = (k + 1 : Nat)) (hw : walkS l f (k + 1) (lwOf p.rows (clampS p.size) w) (lhOf p.rows (clampS p.size) h) = some e) (hr : p.right = (e : Nat)) :
    walkS l (f + 1) k w h = walkS l f e (rwOf p.rows (clampS p.size) w) (rhOf p.rows (clampS p.size) h) := by
  rw [walkS, hp]; simp only; rw [if_neg (by omega), if_neg hl, if_neg (by simp [h0, h3]), hw]; simp only; rw [if_neg (by simp [hr])]
end
theorem clampS_le (n : Int) : 0 ≤ clampS n ∧ clampS n ≤ 1000 := by unfold clampS; omega
def partA (p : PartV) : Value := .agg #[.int .i64 p.pane, .bool p.rows, .int .i64 p.size, .int .i64 p.left, .int .i64 p.right]
def PartsPost (rows : Bool) (c a b : Int) (w : World) (e : Ending) (w' : World) : Prop :=
  e = .returned (.tuple #[.int .i64 (lwOf rows c a), .int .i64 (lhOf rows c b), .int .i64 (rwOf rows c a), .int .i64 (rhOf rows c b)]) ∧ Below w.heap.size w w'
set_option maxHeartbeats 1000000 in
theorem l05Parts_any (pane : Int) (rows : Bool) (size left right a b : Int) (w : World) (a1 : -100000 ≤ a) (a2 : a ≤ 100000) (b1 : -100000 ≤ b) (b2 : b ≤ 100000) :
    Calls Tryd.prog 34 #[.agg #[.int .i64 pane, .bool rows, .int .i64 size, .int .i64 left, .int .i64 right], .int .i64 a, .int .i64 b] w (PartsPost rows (clampS size) a b w) := by
  have HB : Below w.heap.size w (w.alloc (.cells #[.int .i64 pane, .bool rows, .int .i64 size, .int .i64 left, .int .i64 right] 54)) := (Below.refl _ _).alloc (Nat.le_refl _) _
  have key : ∀ c, clampS size = c → (size < 0 ∧ c = 0) ∨ (0 ≤ size ∧ size ≤ 1000 ∧ c = size) ∨ (1000 < size ∧ c = 1000) := by rintro c rfl; unfold clampS; omega
  rcases key _ rfl with ⟨h, hc⟩ | ⟨h, h', hc⟩ | ⟨h, hc⟩
  all_goals
    rw [hc]
    clear hc key
    cases rows
    all_goals
      go_enter Tryd.func34, Tryd.ntmps34
      go_wp2
      all_goals try (exfalso; omega)
      all_goals
        refine bodyPost_ret (v := .tuple #[.int .i64 (lwOf _ _ a), .int .i64 (lhOf _ _ b), .int .i64 (rwOf _ _ a), .int .i64 (rhOf _ _ b)]) ?_ rfl ⟨rfl, HB⟩
        simp [results, Tryd.results34, go_sem, lwOf, lhOf, rwOf, rhOf] <;> omega
def WalkPost (r : Option Nat) (w : World) (e : Ending) (w' : World) : Prop :=
  Below w.heap.size w w' ∧ ((r = none ∧ ∃ x, e = .returned (.tuple #[.int .i64 x, .bool false])) ∨ ∃ en : Nat, r = some en ∧ e = .returned (.tuple #[.int .i64 (en : Int), .bool true]))
set_option maxHeartbeats 8000000 in
theorem l05Walk_any (ao : Option Addr) (len cap : Nat) (ps : List PartV) (hl : ps.length = len) (hn : len ≤ 1000) (hlc : len ≤ cap) : ∀ (f k : Nat) (a b : Int) (w : World), At w ao (partsV ps) → len < f + k → k ≤ 2000 → -1000 ≤ a → a ≤ 1000 → -1000 ≤ b → b ≤ 1000 →
    Calls Tryd.prog 33 #[.agg #[.slice ao len cap], .int .i64 k, .int .i64 a, .int .i64 b] w (WalkPost (walkS ps f k a b) w) := by
  intro f
  induction f with
  | zero =>
    intro k a b w ha hf hi a1 a2 b1 b2
    have HE : Hid (WalkPost (walkS ps 0 k a b) w (.returned (.tuple #[.int .i64 0, .bool false])) (w.alloc (.cells #[.slice ao len cap] 26))) := ⟨(Below.refl _ _).alloc (Nat.le_refl _) _, .inl ⟨rfl, 0, rfl⟩⟩
    have hge : ¬ k < len := by omega
    go_enter Tryd.func33, Tryd.ntmps33
    go_wp2
    go_ret2
    exact HE.out
  | succ f ih =>
    intro k a b w ha hf hi a1 a2 b1 b2
    have HB : Below w.heap.size w (w.alloc (.cells #[.slice ao len cap] 26)) := (Below.refl _ _).alloc (Nat.le_refl _) _
    have HEND : ∀ w', Below w.heap.size w w' → walkS ps (f + 1) k a b = none → Hid (WalkPost (walkS ps (f + 1) k a b) w (.returned (.tuple #[.int .i64 0, .bool false])) w') := fun w' h1 h2 => ⟨h1, .inl ⟨h2, 0, rfl⟩⟩
    by_cases hil : k < len
    · obtain ⟨p, hp⟩ : ∃ p, ps[k]? = some p := ⟨ps[k]'(by omega), List.getElem?_eq_getElem _⟩
      by_cases hsm : a < 2 ∨ b < 2
      · have HE := HEND _ HB (walkS_small hp hsm)
        have q1 : decide ((len : Int) ≤ (k : Int)) = false := decide_eq_false (by omega)
        clear ih HEND ha hp
        rcases (show a < 2 ∨ (2 ≤ a ∧ b < 2) by omega) with h | ⟨h, h'⟩
        · go_enter Tryd.func33, Tryd.ntmps33
          go_wp2
          all_goals try (exfalso; omega)
          all_goals
            go_ret2
            exact HE.out
        · go_enter Tryd.func33, Tryd.ntmps33
          go_wp2
          all_goals try (exfalso; omega)
          all_goals
            go_ret2
            exact HE.out
      · obtain ⟨blk, off, rfl, c0, c1, c2, c3, c4⟩ := At.part (ha.below HB (Nat.le_refl _)) hp
        obtain ⟨pane, rows, size, left, right⟩ := p
        simp only at c0 c1 c2 c3 c4
        have i1 : (0 : Int) ≤ (k : Int) := by omega
        have i2 : (k : Int) < (len : Int) := by omega
        have ha2 : 2 ≤ a := by omega
        have hb2 : 2 ≤ b := by omega
        have q1 : decide ((len : Int) ≤ (k : Int)) = false := decide_eq_false (by omega)
        have q2 : decide ((a : Int) < 2) = false := decide_eq_false (by omega)
        have q3 : decide ((b : Int) < 2) = false := decide_eq_false (by omega)
        have HA := Lib.hid ha
        have HIH := Lib.hid ih
        have HPS := Lib.hid hp
        have HLL := Lib.hid hl
        have HED := Lib.hid HEND
        have HBV : Hid (Below w.heap.size w ((w.alloc (.cells #[.slice (some ⟨blk, off, none⟩) len cap] 26)).alloc (.cells #[.int .i64 pane, .bool rows, .int .i64 size, .int .i64 left, .int .i64 right] 54))) := HB.alloc (by simp) _
        have HX0 : Hid (((w.alloc (.cells #[.slice (some ⟨blk, off, none⟩) len cap] 26)).alloc (.cells #[.int .i64 pane, .bool rows, .int .i64 size, .int .i64 left, .int .i64 right] 54)).heap[w.heap.size]? = some (.cells #[.slice (some ⟨blk, off, none⟩) len cap] 26 (0, 0))) := by
          show _ = _
          rw [Below.heap_alloc _ _ _ (by simp)]; exact heap_alloc_new w _
        have HX1 : Hid (((w.alloc (.cells #[.slice (some ⟨blk, off, none⟩) len cap] 26)).alloc (.cells #[.int .i64 pane, .bool rows, .int .i64 size, .int .i64 left, .int .i64 right] 54)).heap[w.heap.size + 1]? = some (.cells #[.int .i64 pane, .bool rows, .int .i64 size, .int .i64 left, .int .i64 right] 54 (0, 0))) := by
          show _ = _
          have := heap_alloc_new (w.alloc (.cells #[.slice (some ⟨blk, off, none⟩) len cap] 26)) (.cells #[.int .i64 pane, .bool rows, .int .i64 size, .int .i64 left, .int .i64 right] 54)
          rwa [World.size_alloc] at this
        clear ha ih hp hl HEND hsm
        by_cases hlf : left = -1
        · have HW : Hid (walkS ps (f + 1) k a b = if right = -1 ∧ rows = false ∧ size = 0 ∧ 1 ≤ pane ∧ pane ≤ 1000 then some (k + 1) else none) := walkS_leaf HPS.out ha2 hb2 hlf
          rw [hlf] at c3 HBV
          clear hlf
          rcases (show right ≠ -1 ∨ (right = -1 ∧ rows = true) ∨ (right = -1 ∧ rows = false ∧ size ≠ 0) ∨ (right = -1 ∧ rows = false ∧ size = 0) by cases rows <;> simp <;> omega) with h | ⟨h, h'⟩ | ⟨h, h', h''⟩ | ⟨h, h', h''⟩
          · have HN : Hid (walkS ps (f + 1) k a b = none) := by show _ = _; rw [HW.out, if_neg (fun c => h c.1)]
            have b1 : ((right : Int) == -1) = false := by simp [h]
            clear h HW
            go_enter Tryd.func33, Tryd.ntmps33
            go_wp2
            all_goals try (exfalso; omega)
            all_goals
              go_ret2
              exact ⟨HBV.out, .inl ⟨HN.out, _, rfl⟩⟩
          · have HN : Hid (walkS ps (f + 1) k a b = none) := by show _ = _; rw [HW.out, if_neg (fun c => by simp [h'] at c)]
            rw [h] at c4
            rw [h'] at c1
            rw [h, h'] at HBV
            clear h h' HW
            go_enter Tryd.func33, Tryd.ntmps33
            go_wp2
            all_goals try (exfalso; omega)
            all_goals
              go_ret2
              refine ⟨?_, .inl ⟨HN.out, _, rfl⟩⟩
              exact HBV.out
          · have HN : Hid (walkS ps (f + 1) k a b = none) := by show _ = _; rw [HW.out, if_neg (fun c => h'' c.2.2.1)]
            have b1 : ((size : Int) == 0) = false := by simp [h'']
            rw [h] at c4
            rw [h'] at c1
            rw [h, h'] at HBV
            clear h h' h'' HW
            go_enter Tryd.func33, Tryd.ntmps33
            go_wp2
            all_goals try (exfalso; omega)
            all_goals
              go_ret2
              refine ⟨?_, .inl ⟨HN.out, _, rfl⟩⟩
              exact HBV.out
          · rw [h] at c4
            rw [h'] at c1
            rw [h''] at c2
            rw [h, h', h''] at HBV HW
            clear h h' h''
            by_cases hpr : 1 ≤ pane ∧ pane ≤ 1000
            · have HN : Hid (walkS ps (f + 1) k a b = some (k + 1)) := by show _ = _; rw [HW.out, if_pos ⟨rfl, rfl, rfl, hpr.1, hpr.2⟩]
              have hw : (decide (1 ≤ pane) && decide (pane ≤ 1000)) = true := by simp [hpr.1, hpr.2]
              clear hpr HW
              go_enter Tryd.func33, Tryd.ntmps33
              go_wp2_with (go_at_call 21; refine (l01In_any _ _ _ _).mono ?_; rw [hw]; rintro e w' ⟨rfl, rfl⟩)
              all_goals try (exfalso; omega)
              all_goals
                go_ret2
                refine ⟨?_, .inr ⟨_, HN.out, rfl⟩⟩
                exact HBV.out
            · have HN : Hid (walkS ps (f + 1) k a b = none) := by show _ = _; rw [HW.out, if_neg (fun c => hpr ⟨c.2.2.2.1, c.2.2.2.2⟩)]
              have hw : (decide (1 ≤ pane) && decide (pane ≤ 1000)) = false := by rw [Bool.eq_false_iff]; simp; omega
              clear hpr HW
              go_enter Tryd.func33, Tryd.ntmps33
              go_wp2_with (go_at_call 21; refine (l01In_any _ _ _ _).mono ?_; rw [hw]; rintro e w' ⟨rfl, rfl⟩)
              all_goals try (exfalso; omega)
              all_goals
                go_ret2
                refine ⟨?_, .inl ⟨HN.out, _, rfl⟩⟩
                exact HBV.out
        · have hl0 : ((left : Int) == -1) = false := by simp [hlf]
          by_cases hc : pane ≠ 0 ∨ left ≠ (k : Int) + 1
          · have HE := HED.out _ HBV.out (walkS_bad1 HPS.out ha2 hb2 hlf (by rcases hc with h | h; exact .inl h; exact .inr (by show left ≠ _; omega)))
            rcases (show pane ≠ 0 ∨ (pane = 0 ∧ left ≠ (k : Int) + 1) by omega) with h | ⟨h, h'⟩
            · have b0 : ((pane : Int) != 0) = true := by simp [h]
              clear h hc hlf
              go_enter Tryd.func33, Tryd.ntmps33
              go_wp2
              all_goals try (exfalso; omega)
              all_goals
                go_ret2
                exact HE.out
            · have b0 : ((left : Int) != (k : Int) + 1) = true := by simp [h']
              rw [h] at c0
              rw [h] at HE
              clear h h' hc hlf
              go_enter Tryd.func33, Tryd.ntmps33
              go_wp2
              all_goals try (exfalso; omega)
              all_goals
                go_ret2
                exact HE.out
          · have hp0 : pane = 0 := by omega
            have hl1 : left = ((k + 1 : Nat) : Int) := by omega
            have hlk : ((left : Int) != (k : Int) + 1) = false := by simp; omega
            have hcs := clampS_le size
            obtain ⟨lw, hlw⟩ : ∃ x, lwOf rows (clampS size) a = x := ⟨_, rfl⟩
            obtain ⟨lh, hlh⟩ : ∃ x, lhOf rows (clampS size) b = x := ⟨_, rfl⟩
            obtain ⟨rw_, hrw⟩ : ∃ x, rwOf rows (clampS size) a = x := ⟨_, rfl⟩
            obtain ⟨rh, hrh⟩ : ∃ x, rhOf rows (clampS size) b = x := ⟨_, rfl⟩
            have bd : (-1000 ≤ lw ∧ lw ≤ 1000) ∧ (-1000 ≤ lh ∧ lh ≤ 1000) ∧ (-1000 ≤ rw_ ∧ rw_ ≤ 1000) ∧ (-1000 ≤ rh ∧ rh ≤ 1000) := by
              subst hlw hlh hrw hrh
              cases rows <;> simp [lwOf, lhOf, rwOf, rhOf] <;> omega
            obtain ⟨⟨d1, d2⟩, ⟨d3, d4⟩, ⟨d5, d6⟩, ⟨d7, d8⟩⟩ := bd
            have HCP : ∀ W, Calls Tryd.prog 34 #[.agg #[.int .i64 0, .bool rows, .int .i64 size, .int .i64 left, .int .i64 right], .int .i64 a, .int .i64 b] W (fun e w' => e = .returned (.tuple #[.int .i64 lw, .int .i64 lh, .int .i64 rw_, .int .i64 rh]) ∧ Below W.heap.size W w') := fun W =>
              (l05Parts_any 0 rows size left right a b W (by omega) (by omega) (by omega) (by omega)).mono (by
                rintro e w' ⟨rfl, h⟩
                rw [hlw, hlh, hrw, hrh]
                exact ⟨rfl, h⟩)
            have HL1 : Hid (walkS ps f (k + 1) lw lh = none → walkS ps (f + 1) k a b = none) := fun h => walkS_left HPS.out ha2 hb2 hlf hp0 hl1 (by rw [hlw, hlh]; exact h)
            have HL2 : Hid (∀ e : Nat, walkS ps f (k + 1) lw lh = some e → right ≠ (e : Nat) → walkS ps (f + 1) k a b = none) := fun e h hr => walkS_bad2 HPS.out ha2 hb2 hlf hp0 hl1 (by rw [hlw, hlh]; exact h) hr
            have HL3 : Hid (∀ e : Nat, walkS ps f (k + 1) lw lh = some e → right = (e : Nat) → walkS ps (f + 1) k a b = walkS ps f e rw_ rh) := fun e h hr => by
              rw [← hrw, ← hrh]; exact walkS_right HPS.out ha2 hb2 hlf hp0 hl1 (by rw [hlw, hlh]; exact h) hr
            have HLK := Lib.hid hl1
            have HCQ := Lib.hid HCP
            rw [hp0] at c0 HBV HX0 HX1
            clear hlw hlh hrw hrh hcs hc hlf hl1 hp0 HED HCP
            go_enter Tryd.func33, Tryd.ntmps33
            go_wp2_with fail
            refine (HCQ.out _).mono ?_
            generalize ((w.alloc (.cells #[.slice (some ⟨blk, off, none⟩) len cap] 26)).alloc (.cells #[.int .i64 0, .bool rows, .int .i64 size, .int .i64 left, .int .i64 right] 54)) = V at *
            clear c0 c1 c2 c3 c4 HCQ
            rintro e w1 ⟨rfl, hb1⟩
            have HB1 : Hid (Below w.heap.size w w1) := HBV.out.trans (hb1.mono HBV.out.size)
            have HX0' : Hid (w1.heap[w.heap.size]? = some (.cells #[.slice (some ⟨blk, off, none⟩) len cap] 26 (0, 0))) := (hb1.block _ (box_lt HX0.out)).trans HX0.out
            have HX1' : Hid (w1.heap[w.heap.size + 1]? = some (.cells #[.int .i64 0, .bool rows, .int .i64 size, .int .i64 left, .int .i64 right] 54 (0, 0))) := (hb1.block _ (box_lt HX1.out)).trans HX1.out
            have HC1 := Lib.hid (HIH.out (k + 1) lw lh w1 (HA.out.below HB1.out (Nat.le_refl _)) (by omega) (by omega) d1 d2 d3 d4)
            rw [← HLK.out] at HC1
            have x0 := box_cells HX0'.out 0
            have x1 := box_cells HX1'.out 1
            have x2 := box_cells HX1'.out 2
            have x3 := box_cells HX1'.out 3
            have x4 := box_cells HX1'.out 4
            simp at x0 x1 x2 x3 x4
            clear hb1 HBV HX0 HX1
            go_wp2_with fail
            refine HC1.out.mono ?_
            clear x0 x1 x2 x3 x4
            rintro e w2 ⟨hb2, ⟨hn, x, rfl⟩ | ⟨en, hs, rfl⟩⟩
            · have HN : Hid (walkS ps (f + 1) k a b = none) := HL1.out hn
              have HB2 : Hid (Below w.heap.size w w2) := HB1.out.trans (hb2.mono HB1.out.size)
              clear hn hb2 HC1
              go_wp2
              go_ret2
              exact ⟨HB2.out, .inl ⟨HN.out, _, rfl⟩⟩
            · have HB2 : Hid (Below w.heap.size w w2) := HB1.out.trans (hb2.mono HB1.out.size)
              have HX1'' : Hid (w2.heap[w.heap.size + 1]? = some (.cells #[.int .i64 0, .bool rows, .int .i64 size, .int .i64 left, .int .i64 right] 54 (0, 0))) := (hb2.block _ (box_lt HX1'.out)).trans HX1'.out
              have HX0'' : Hid (w2.heap[w.heap.size]? = some (.cells #[.slice (some ⟨blk, off, none⟩) len cap] 26 (0, 0))) := (hb2.block _ (box_lt HX0'.out)).trans HX0'.out
              have x0 := box_cells HX0''.out 0
              have x4 := box_cells HX1''.out 4
              simp at x0 x4
              by_cases hr : right = (en : Nat)
              · have hen : en ≤ len := by
                  obtain ⟨t, sp, he, _⟩ := walkS_sound ps _ _ _ _ _ hs d2 d4
                  have := sp.le; have := HLL.out; have := t.len_pos; omega
                have hen2 : k < en := by
                  obtain ⟨t, sp, he, _⟩ := walkS_sound ps _ _ _ _ _ hs d2 d4
                  have := t.len_pos; omega
                have HN : Hid (walkS ps (f + 1) k a b = walkS ps f en rw_ rh) := HL3.out en hs hr
                have HC2 := Lib.hid (HIH.out en rw_ rh w2 (HA.out.below HB2.out (Nat.le_refl _)) (by omega) (by omega) d5 d6 d7 d8)
                rw [← hr] at HC2
                have bq : ((right : Int) != (en : Int)) = false := by simp [hr]
                clear hs hb2 hr HC1
                go_wp2_with fail
                refine HC2.out.mono ?_
                rintro e w3 ⟨hb3, ⟨hn3, x, rfl⟩ | ⟨en3, hs3, rfl⟩⟩
                · have HN3 : Hid (walkS ps (f + 1) k a b = none) := HN.out.trans hn3
                  have HB3 : Hid (Below w.heap.size w w3) := HB2.out.trans (hb3.mono HB2.out.size)
                  clear hn3 hb3 HC2
                  go_wp2
                  go_ret2
                  exact ⟨HB3.out, .inl ⟨HN3.out, _, rfl⟩⟩
                · have HN3 : Hid (walkS ps (f + 1) k a b = some en3) := HN.out.trans hs3
                  have HB3 : Hid (Below w.heap.size w w3) := HB2.out.trans (hb3.mono HB2.out.size)
                  clear hs3 hb3 HC2
                  go_wp2
                  go_ret2
                  exact ⟨HB3.out, .inr ⟨_, HN3.out, rfl⟩⟩
              · have HN : Hid (walkS ps (f + 1) k a b = none) := HL2.out en hs hr
                have bq : ((right : Int) != (en : Int)) = true := by simp [hr]
                clear hs hb2 hr HC1
                go_wp2
                go_ret2
                exact ⟨HB2.out, .inl ⟨HN.out, _, rfl⟩⟩
    · have HE := HEND _ HB (walkS_end (List.getElem?_eq_none (by omega)))
      clear ih hf HEND
      go_enter Tryd.func33, Tryd.ntmps33
      go_wp2
      go_ret2
      exact HE.out
end Go.Proofs.YtaacccooidehlaaDoor
