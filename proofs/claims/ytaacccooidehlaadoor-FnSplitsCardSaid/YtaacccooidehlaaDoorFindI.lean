/-
  Contract of the given program's find: the part of a pane, and the split that it is a part of. Conditions: the tree lies so.
-/
import Derived.Test.YtaacccooidehlaaDoorLayTree
import Derived.BigQuiet
import Derived.LoopN
namespace Go.Proofs.YtaacccooidehlaaDoor
open Go.ChangeShapes Go.WideShapes Go.ChangeAt Go.RowKit
set_option linter.unusedVariables false
set_option linter.unusedSimpArgs false
set_option maxRecDepth 100000
/-- where a pane lies: its block, and the block of its split -/
def Sh.find : Sh → Tr → Int → Option (Nat × Option Nat)
  | .lf b, .leaf q, p => if q = p then some (b, none) else none
  | .nd b sl sr, .node _ _ l r, p =>
    match sl.find l p with
    | some (f, u) => some (f, some (u.getD b))
    | none => match sr.find r p with
      | some (f, u) => some (f, some (u.getD b))
      | none => none
  | _, _, _ => none
def ptrO (b : Option Nat) : Value := .pointer (b.map fun b => ⟨b, 0, none⟩)
def findV : Option (Nat × Option Nat) → Value
  | none => .tuple #[.pointer none, .pointer none]
  | some (f, u) => .tuple #[.pointer (some ⟨f, 0, none⟩), ptrO u]
def FindPost (o : Option (Nat × Option Nat)) (w : World) (e : Ending) (w' : World) : Prop := e = .returned (findV o) ∧ ∃ n, w' = w.drewN n
theorem TreG.drewN {lfC : Int → Array Value} {ndC : Bool → Int → Nat → Nat → Array Value} {T : TypeId} {s : Sh} {t : Tr} {w : World} (n : Nat) (h : TreG lfC ndC T w s t) : TreG lfC ndC T (w.drewN n) s t := h.congr fun _ _ => rfl
theorem index_first (a b : Value) (W : World) : (Instr.index 90 (.agg #[a, b]) (.int .i64 0)).run Tryd.prog W = .ok a W := by
  simp [Instr.index, run_underlying Tryd.underlying90, asIntOf, go_sem]
theorem index_second (a b : Value) (W : World) : (Instr.index 90 (.agg #[a, b]) (.int .i64 1)).run Tryd.prog W = .ok b W := by
  simp [Instr.index, run_underlying Tryd.underlying90, asIntOf, go_sem]
set_option maxHeartbeats 4000000 in
theorem find_any : ∀ (t : Tr) (s : Sh) (p : Int) (w : World), TreI w s t → t.okP →
    Calls Tryd.prog 42 #[.pointer (some ⟨s.root, 0, none⟩), .int .i64 p] w (FindPost (s.find t p) w) := by
  intro t
  induction t with
  | leaf q =>
    intro s p w h hp
    obtain ⟨c, rfl, hc⟩ := TreG.leaf h
    have x := box_cells hc
    have hq := bne_iff_ne.2 (show q ≠ 0 from hp)
    unfold areaLf at x
    show Calls _ _ #[.pointer (some ⟨c, 0, none⟩), _] _ _
    by_cases e : q = p
    · have HF : Hid ((Sh.lf c).find (.leaf q) p = some (c, none)) := if_pos e
      have hb : ((q : Int) == p) = true := by simp [e]
      clear h hc hp e
      go_enter Tryd.func42, Tryd.ntmps42
      go_wp2
      go_ret2
      exact ⟨by rw [HF.out]; rfl, 0, rfl⟩
    · have HF : Hid ((Sh.lf c).find (.leaf q) p = none) := if_neg e
      have hb : ((q : Int) == p) = false := by simp [e]
      clear h hc hp e
      go_enter Tryd.func42, Tryd.ntmps42
      go_wp2
      go_ret2
      exact ⟨by rw [HF.out]; rfl, 0, rfl⟩
  | node rows size l r ihl ihr =>
    intro s p w h hp
    obtain ⟨c, sl, sr, rfl, hc, h1, h2⟩ := TreG.node h
    have x0 := box_cells hc 0
    have x3 := box_cells hc 3
    have x4 := box_cells hc 4
    unfold areaNd at x0 x3 x4
    simp only [List.getElem?_toArray, List.getElem?_cons_zero, List.getElem?_cons_succ] at x0 x3 x4
    have HL : Hid (∀ n, Calls Tryd.prog 42 #[.pointer (some ⟨sl.root, 0, none⟩), .int .i64 p] (w.drewN n) (FindPost (sl.find l p) (w.drewN n))) := fun n => ihl sl p _ (TreG.drewN n h1) hp.2.2.1
    have HR : Hid (∀ n, Calls Tryd.prog 42 #[.pointer (some ⟨sr.root, 0, none⟩), .int .i64 p] (w.drewN n) (FindPost (sr.find r p) (w.drewN n))) := fun n => ihr sr p _ (TreG.drewN n h2) hp.2.2.2
    obtain ⟨R, hR⟩ : ∃ R, (Sh.nd c sl sr).find (.node rows size l r) p = R := ⟨_, rfl⟩
    have HRR := Lib.hid hR
    rw [hR]
    show Calls _ _ #[.pointer (some ⟨c, 0, none⟩), _] _ _
    have hix0 := index_first
    have hix1 := index_second
    clear h hc hp h1 h2 ihl ihr hR
    cases eL : sl.find l p with
    | some fu =>
      obtain ⟨f, u⟩ := fu
      rw [eL] at HL
      have HE : Hid (R = some (f, some (u.getD c))) := by show _ = _; rw [← HRR.out]; simp only [Sh.find, eL]
      clear eL HRR HR
      cases u with
      | none =>
        go_enter Tryd.func42, Tryd.ntmps42
        go_wp2_with fail
        go_quiet (fail)
        go_wp2_with fail
        refine wp_loop_rounds 3 ?_
        rw [rounds_succ]
        go_wp2_with fail
        refine (HL.out _).mono ?_
        rintro e w1 ⟨rfl, n1, rfl⟩
        unfold findV ptrO
        go_wp2
        go_ret2
        exact ⟨by rw [HE.out]; rfl, _, rfl⟩
      | some u =>
        go_enter Tryd.func42, Tryd.ntmps42
        go_wp2_with fail
        go_quiet (fail)
        go_wp2_with fail
        refine wp_loop_rounds 3 ?_
        rw [rounds_succ]
        go_wp2_with fail
        refine (HL.out _).mono ?_
        rintro e w1 ⟨rfl, n1, rfl⟩
        unfold findV ptrO
        go_wp2
        go_ret2
        exact ⟨by rw [HE.out]; rfl, _, rfl⟩
    | none =>
      rw [eL] at HL
      cases eR : sr.find r p with
      | some fu =>
        obtain ⟨f, u⟩ := fu
        rw [eR] at HR
        have HE : Hid (R = some (f, some (u.getD c))) := by show _ = _; rw [← HRR.out]; simp only [Sh.find, eL, eR]
        clear eL eR HRR
        cases u with
        | none =>
          go_enter Tryd.func42, Tryd.ntmps42
          go_wp2_with fail
          go_quiet (fail)
          go_wp2_with fail
          refine wp_loop_rounds 3 ?_
          rw [rounds_succ]
          go_wp2_with fail
          refine (HL.out _).mono ?_
          rintro e w1 ⟨rfl, n1, rfl⟩
          unfold findV
          go_wp2_with fail
          rw [rounds_succ]
          go_wp2_with fail
          refine (HR.out _).mono ?_
          rintro e w1 ⟨rfl, n2, rfl⟩
          unfold findV ptrO
          go_wp2
          go_ret2
          exact ⟨by rw [HE.out]; rfl, _, rfl⟩
        | some u =>
          go_enter Tryd.func42, Tryd.ntmps42
          go_wp2_with fail
          go_quiet (fail)
          go_wp2_with fail
          refine wp_loop_rounds 3 ?_
          rw [rounds_succ]
          go_wp2_with fail
          refine (HL.out _).mono ?_
          rintro e w1 ⟨rfl, n1, rfl⟩
          unfold findV
          go_wp2_with fail
          rw [rounds_succ]
          go_wp2_with fail
          refine (HR.out _).mono ?_
          rintro e w1 ⟨rfl, n2, rfl⟩
          unfold findV ptrO
          go_wp2
          go_ret2
          exact ⟨by rw [HE.out]; rfl, _, rfl⟩
      | none =>
        rw [eR] at HR
        have HE : Hid (R = none) := by show _ = _; rw [← HRR.out]; simp only [Sh.find, eL, eR]
        clear eL eR HRR
        go_enter Tryd.func42, Tryd.ntmps42
        go_wp2_with fail
        go_quiet (fail)
        go_wp2_with fail
        refine wp_loop_rounds 3 ?_
        rw [rounds_succ]
        go_wp2_with fail
        refine (HL.out _).mono ?_
        rintro e w1 ⟨rfl, n1, rfl⟩
        unfold findV
        go_wp2_with fail
        rw [rounds_succ]
        go_wp2_with fail
        refine (HR.out _).mono ?_
        rintro e w1 ⟨rfl, n2, rfl⟩
        unfold findV
        go_wp2_with fail
        rw [rounds_succ]
        go_wp2
        go_ret2
        exact ⟨by rw [HE.out]; rfl, _, rfl⟩
end Go.Proofs.YtaacccooidehlaaDoor
