/-
  Contracts of the reference's l05Find and l05Count at layouts. Conditions: the parts lie as the cells say.
-/
import Derived.Test.YtaacccooidehlaaDoorFitR
namespace Go.Proofs.YtaacccooidehlaaDoor
open Go.ChangeShapes Go.WideShapes Go.ChangeAt Go.RowKit
set_option linter.unusedVariables false
set_option linter.unusedSimpArgs false
set_option maxRecDepth 100000
def isP (p : Int) (q : PartV) : Bool := (q.left == -1) && (q.pane == p)
theorem parts_any : ∀ (t : Tr) (k : Nat) (p : Int), (t.parts k).any (isP p) = decide (p ∈ t.panes)
  | .leaf q, k, p => by
    simp only [Tr.parts, Tr.panes, List.any_cons, List.any_nil, Bool.or_false, isP, List.mem_singleton]
    rw [Bool.eq_iff_iff]; simp; exact eq_comm
  | .node rows size l r, k, p => by
    simp only [Tr.parts, Tr.panes, List.any_cons, List.any_append, parts_any l, parts_any r, List.mem_append]
    have : isP p ⟨0, rows, size, ((k + 1 : Nat) : Int), ((k + 1 + l.len : Nat) : Int)⟩ = false := by
      have h : (((k + 1 : Nat) : Int) == -1) = false := by rw [beq_eq_false_iff_ne]; omega
      simp only [isP, h, Bool.false_and]
    rw [this, Bool.false_or, Bool.eq_iff_iff]; simp
set_option maxHeartbeats 2000000 in
theorem l05Find_raw (ao : Option Addr) (len cap : Nat) (ps : List PartV) (hl : ps.length = len) (hn : len ≤ 1000) (p : Int) (w : World) (ha : At w ao (partsV ps)) :
    Calls Tryd.prog 44 #[.agg #[.slice ao len cap], .int .i64 p] w fun e w' => e = .returned (.bool (ps.any (isP p))) ∧ Below w.heap.size w w' := by
  have HB : Hid (Below w.heap.size w (w.alloc (.cells #[.slice ao len cap] 26))) := (Below.refl _ _).alloc (Nat.le_refl _) _
  have HA := Lib.hid (ha.below HB.out (Nat.le_refl _))
  have HL := Lib.hid hl
  obtain ⟨R, hR⟩ : ∃ R, ps.any (isP p) = R := ⟨_, rfl⟩
  have HR := Lib.hid hR
  rw [hR]
  clear ha hl hR
  go_enter Tryd.func44, Tryd.ntmps44
  go_wp2
  go_loop [5] (fun i => ∃ k : Nat, k ≤ len ∧ i = .int .i64 k ∧ Hid (∀ (j : Nat) (q : PartV), j < k → ps[j]? = some q → isP p q = false)) (fun i => len - (intOf i).toNat)
  case atStart => exact ⟨0, Nat.zero_le _, rfl, fun j q h => absurd h (by omega)⟩
  case round =>
    obtain ⟨k, hk, rfl, hall⟩ := hrel
    by_cases hkl : k < len
    · obtain ⟨q, hq⟩ : ∃ q, ps[k]? = some q := ⟨ps[k]'(by have := HL.out; omega), List.getElem?_eq_getElem _⟩
      obtain ⟨blk, off, rfl, c0, c1, c2, c3, c4⟩ := HA.out.part hq
      have HQ := Lib.hid hq
      have i1 : (0 : Int) ≤ (k : Int) := by omega
      have i2 : (k : Int) < (len : Int) := by omega
      clear hq c1 c2 c4
      cases hleft : (q.left == -1)
      · have HN : Hid (∀ (j : Nat) (q' : PartV), j < k + 1 → ps[j]? = some q' → isP p q' = false) := fun j q' h1 h2 => by
          by_cases e : j = k
          · subst e
            rw [HQ.out] at h2
            injection h2 with h2
            subst h2
            simp only [isP, hleft, Bool.false_and]
          · exact hall.out j q' (by omega) h2
        clear hall
        go_wp2
        go_round
        case rel => exact ⟨k + 1, by omega, by go_num, HN⟩
        case measure => simp [intOf]; omega
      · cases hpane : (q.pane == p)
        · have HN : Hid (∀ (j : Nat) (q' : PartV), j < k + 1 → ps[j]? = some q' → isP p q' = false) := fun j q' h1 h2 => by
            by_cases e : j = k
            · subst e
              rw [HQ.out] at h2
              injection h2 with h2
              subst h2
              simp only [isP, hpane, Bool.and_false]
            · exact hall.out j q' (by omega) h2
          clear hall
          go_wp2
          go_round
          case rel => exact ⟨k + 1, by omega, by go_num, HN⟩
          case measure => simp [intOf]; omega
        · have HT : Hid (R = true) := by
            show _ = _
            rw [← HR.out, List.any_eq_true]
            exact ⟨q, List.mem_of_getElem? HQ.out, by simp only [isP, hleft, hpane, Bool.and_true]⟩
          clear hall
          go_wp2
          go_ret
          exact ⟨ret_bool HT.out.symm, HB.out⟩
    · have HT : Hid (R = false) := by
        show _ = _
        rw [← HR.out, List.any_eq_false]
        intro q hq
        obtain ⟨j, hj⟩ := List.mem_iff_getElem?.1 hq
        have := (List.getElem?_eq_some_iff.1 hj).1
        have h2 := hall.out j q (by have := HL.out; omega) hj
        simp [h2]
      clear hall
      go_wp2
      go_ret
      exact ⟨ret_bool HT.out.symm, HB.out⟩
theorem l05Find_any (ao : Option Addr) (len cap : Nat) (ps : List PartV) (hl : ps.length = len) {W H : Int} {t : Tr} (y : Lay ps W H t) (p : Int) (w : World) (ha : At w ao (partsV ps)) :
    Calls Tryd.prog 44 #[.agg #[.slice ao len cap], .int .i64 p] w fun e w' => e = .returned (.bool (decide (p ∈ t.panes))) ∧ Below w.heap.size w w' := by
  obtain ⟨l1, l2, l3, l4⟩ := y.len
  have h := l05Find_raw ao len cap ps hl (by omega) p w ha
  rw [show ps.any (isP p) = decide (p ∈ t.panes) from by rw [← parts_any t 0 p, ← y.eq]] at h
  exact h
theorem l05Count_any (ao : Option Addr) (len cap : Nat) (ps : List PartV) (hl : ps.length = len) {W H : Int} {t : Tr} (y : Lay ps W H t) (w : World) :
    Calls Tryd.prog 45 #[.agg #[.slice ao len cap]] w fun e w' => e = .returned (.int .i64 t.leaves) ∧ Below w.heap.size w w' := by
  obtain ⟨l1, l2, l3, l4⟩ := y.len
  have h1 := t.len_eq
  have HB : Hid (Below w.heap.size w (w.alloc (.cells #[.slice ao len cap] 26))) := (Below.refl _ _).alloc (Nat.le_refl _) _
  have hln : len ≤ 11 := by omega
  have HE : Hid (((len : Int) + 1) / 2 = (t.leaves : Int)) := by show _ = _; omega
  have HE2 : Hid (((len : Int) + 1).tdiv 2 = (t.leaves : Int)) := by show _ = _; rw [Int.tdiv_eq_ediv_of_nonneg (by omega)]; exact HE.out
  clear hl y l1 l2 l3 l4 h1
  go_enter Tryd.func45, Tryd.ntmps45
  go_wp2
  go_ret
  exact ⟨ret_int (by first | exact HE.out | exact HE2.out | (have := HE.out; omega)), HB.out⟩
end Go.Proofs.YtaacccooidehlaaDoor
