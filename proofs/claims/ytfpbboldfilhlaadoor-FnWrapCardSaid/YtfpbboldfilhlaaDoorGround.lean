/-
  Contracts of the given program's ground and parse at a letter, in the first state. Conditions: the list owns its row; the letter is one that shows.
-/
import Derived.Test.YtfpbboldfilhlaaDoorAct
import Derived.Deep.AppendLies
namespace Go.Proofs.YtfpbboldfilhlaaDoor
open Go.ChangeShapes Go.WideShapes Go.ChangeAt Go.RowKit
set_option linter.unusedVariables false
set_option linter.unusedSimpArgs false
set_option maxRecDepth 100000
theorem Tryd.info_act : (Tryd.prog.info? 67).map (fun i => (i.zero, i.size, i.bytes)) = some (some (Value.agg #[.int .i64 0, .int .i64 0, .bool false, .slice none 0 0, .string { data := #[] }]), 5, 64) := by kernel_rfl
/-- the action that a letter gives -/
def actL (b : Nat) : List Value := [.int .i64 1, .int .i64 (b : Int), .bool false, .slice none 0 0, .string ⟨#[]⟩]
theorem actL_one (b : Nat) : ∀ u ∈ actL b, u.oneCell' = true := by
  intro u hu
  simp only [actL, List.mem_cons, List.not_mem_nil, or_false] at hu
  rcases hu with rfl | rfl | rfl | rfl | rfl <;> rfl
theorem actL_new (b : Nat) (w : World) (cs : Array Value) (t : TypeId) (fr : Nat × Nat) (hc : cs.toList = actL b) : ∀ j u, (actL b)[j]? = some u → (w.alloc (.cells cs t fr)).cell? ((⟨w.heap.size, 0, none⟩ : Addr).add j) = some u := by
  intro j u hj
  rw [Addr.add_lit, Nat.zero_add, box_cells (heap_alloc_new w _), ← hj, ← hc]
  simp
attribute [local irreducible] wpList
theorem ground_any (q b base : Nat) (v : Value) (w : World) (hown : w.ownsRow base 67 5 v 0 []) (hb : base ≤ w.heap.size) (h1 : 33 ≤ b) (h2 : b ≤ 126) :
    Calls Tryd.prog 46 #[.pointer (some ⟨q, 0, none⟩), v, .int .u8 (b : Int)] w fun e w' => ∃ g cap, e = .returned (.slice (some ⟨g, 0, none⟩) 1 cap) ∧ w'.ownsRow base 67 5 (.slice (some ⟨g, 0, none⟩) 1 cap) 1 (actL b) ∧ w.grownBy w' v.ownBlock ∧ (v.ownBlock = some g ∨ w.heap.size ≤ g) := by
  obtain ⟨i0, hi, hz0, hz1, hz2⟩ := info_parts Tryd.info_act
  have HO := Lib.hid hown
  have hc : ctlB (b : Int) = false := by simp only [ctlB, inR]; rw [Bool.or_eq_false_iff]; constructor
                                         · rw [Bool.and_eq_false_iff]; right; exact decide_eq_false (by omega)
                                         · rw [beq_eq_false_iff_ne]; omega
  have e1 : ((b : Int) == 27) = false := by rw [beq_eq_false_iff_ne]; omega
  have e2 : (b == 27) = false := by rw [beq_eq_false_iff_ne]; omega
  have e3 : decide ((32 : Int) ≤ (b : Int)) = true := decide_eq_true (by omega)
  have e4 : decide ((b : Int) ≤ 126) = true := decide_eq_true (by omega)
  have hw : IntKind.i64.wrap (b : Int) = (b : Int) := by rw [IntKind.wrap_i64] <;> omega
  clear hown
  go_enter Tryd.func46, Tryd.ntmps46
  go_wp2_with (first
    | (at_builtin; (refine wpList_append_lies _ rfl (.tmp 34) (.tmp 38) 64 rfl base 67 i0 (Value.agg #[.int .i64 0, .int .i64 0, .bool false, .slice none 0 0, .string { data := #[] }]) 5 64 Tryd.underlying64 hi hz0 hz1 hz2 rfl (by decide) v 0 [] rfl (HO.out.alloc _) ⟨w.heap.size, 0, none⟩ 1 1 (actL b) rfl rfl (actL_new b w _ _ _ rfl) (actL_one b) (by decide) (by unfold maxLen; omega) (by omega) (by simp; omega) _ rfl ?_; intro g cap w2 hown2 hgrow2 hlie2 hlt2))
    | (go_at_call 61; refine (isControl_any _ _).mono ?_; rintro e w' ⟨rfl, rfl⟩; rw [hc]))
  go_ret
  refine ⟨g, cap, rfl, by simpa using hown2, ?_, hlie2.elim .inl (fun e => .inr (by rw [e]; simp))⟩
  exact ⟨hgrow2.os, hgrow2.tape, hgrow2.output, Nat.le_trans (by simp) hgrow2.size, fun k hk hne => (hgrow2.block k (by simp; omega) hne).trans (heap_alloc_old w _ hk)⟩
theorem parse_any (q b base : Nat) (v : Value) (w : World) (hq : w.cell? ⟨q, 0, none⟩ = some (.int .i64 0)) (hown : w.ownsRow base 67 5 v 0 []) (hb : base ≤ w.heap.size) (h1 : 33 ≤ b) (h2 : b ≤ 126) :
    Calls Tryd.prog 33 #[.pointer (some ⟨q, 0, none⟩), v, .int .u8 (b : Int)] w fun e w' => ∃ g cap, e = .returned (.slice (some ⟨g, 0, none⟩) 1 cap) ∧ w'.ownsRow base 67 5 (.slice (some ⟨g, 0, none⟩) 1 cap) 1 (actL b) ∧ w.grownBy w' v.ownBlock ∧ (v.ownBlock = some g ∨ w.heap.size ≤ g) := by
  have HO := Lib.hid hown
  clear hown
  go_enter Tryd.func33, Tryd.ntmps33
  go_wp2_with (go_at_call 46; (refine (ground_any q b base v _ HO.out hb h1 h2).mono ?_; rintro e w2 ⟨g, cap, rfl, ho, hg, hl⟩))
  go_ret
  exact ⟨g, cap, rfl, ho, hg, hl⟩
end Go.Proofs.YtfpbboldfilhlaaDoor
