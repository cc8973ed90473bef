/-
  Contract of the given program's kill. Conditions: the tree lies so, it is a layout.
-/
import Derived.Test.YtlmppnckimoclaaFindP
import Derived.Test.YtlmppnckimoclaaFitR
import Derived.LaidEqlPtr
namespace Go.Proofs.Ytlmppnckimoclaa
open Go.ChangeShapes Go.WideShapes Go.ChangeAt Go.RowKit
set_option linter.unusedVariables false
set_option linter.unusedSimpArgs false
set_option maxRecDepth 100000
theorem Try.info_areaT : (Try.prog.info? 73).map (fun i => i.size) = some 5 := by kernel_rfl
theorem ptr_same (a : Nat) (w : World) : (binOp .eql 43 (.pointer (some ⟨a, 0, none⟩)) (.pointer (some ⟨a, 0, none⟩))).run Try.prog w = .ok (.bool true) w := by
  have h := Try.info_areaT
  cases e : Try.prog.info? 73 with
  | none => rw [e] at h; cases h
  | some j => exact run_eql_ptr_same w _ Try.underlying43 e
theorem ptr_other {a b : Nat} {w : World} {ca cb : Array Value} {ta tb : TypeId} (hne : a ≠ b) (ha : w.heap[a]? = some (.cells ca ta (0, 0))) (hb : w.heap[b]? = some (.cells cb tb (0, 0))) : (binOp .eql 43 (.pointer (some ⟨a, 0, none⟩)) (.pointer (some ⟨b, 0, none⟩))).run Try.prog w = .ok (.bool false) w := by
  have h := Try.info_areaT
  cases e : Try.prog.info? 73 with
  | none => rw [e] at h; cases h
  | some j =>
    rw [e] at h
    simp only [Option.map_some, Option.some.injEq] at h
    exact run_eql_ptr_other w (a := ⟨a, 0, none⟩) (b := ⟨b, 0, none⟩) Try.underlying43 e (by omega) (fun e => hne (by injection e)) ha hb
theorem set_five {w : World} {u : Nat} {c0 c1 c2 c3 c4 o0 o1 o2 o3 o4 : Value} {T : TypeId} (h : w.heap[u]? = some (.cells #[c0, c1, c2, c3, c4] T (0, 0))) :
    (((((w.setCell ⟨u, 0, none⟩ o0).setCell ⟨u, 1, none⟩ o1).setCell ⟨u, 2, none⟩ o2).setCell ⟨u, 3, none⟩ o3).setCell ⟨u, 4, none⟩ o4).heap[u]? = some (.cells #[o0, o1, o2, o3, o4] T (0, 0)) :=
  set_heap (set_heap (set_heap (set_heap (set_heap h 0 o0) 1 o1) 2 o2) 3 o3) 4 o4
theorem only_five (w : World) (u : Nat) (o0 o1 o2 o3 o4 : Value) : Only [u] w (((((w.setCell ⟨u, 0, none⟩ o0).setCell ⟨u, 1, none⟩ o1).setCell ⟨u, 2, none⟩ o2).setCell ⟨u, 3, none⟩ o3).setCell ⟨u, 4, none⟩ o4) :=
  (((((Only.refl _ w).set (by simp) 0 _).set (by simp) 1 _).set (by simp) 2 _).set (by simp) 3 _).set (by simp) 4 _
/-- what removing a pane gives -/
def KillO (W H p : Int) (t : Tr) (t' : Tr) (cd : Int) : Prop :=
  (p ∉ t.panes ∧ t' = t ∧ cd = 5) ∨ (p ∈ t.panes ∧ t.leaves = 1 ∧ t' = t ∧ cd = 17) ∨ (p ∈ t.panes ∧ t.leaves ≠ 1 ∧ t' = (t.kill p).fit W H ∧ cd = 0)
def OpPost (t' : Tr) (cd : Int) (s : Sh) (w : World) (e : Ending) (w' : World) : Prop :=
  e = .returned (.int .i64 cd) ∧ (∃ s', TreI w' s' t' ∧ s'.root = s.root) ∧ Only s.bs w w'
theorem leaves_one {t : Tr} {s : Sh} {w : World} {p : Int} {f u : Nat} (h : TreI w s t) (e : s.find t p = some (f, some u)) : t.leaves ≠ 1 := by
  cases t with
  | leaf q =>
    obtain ⟨b, rfl, _⟩ := TreG.leaf h
    simp only [Sh.find] at e
    split at e <;> simp at e
  | node rows size l r => have := l.leaves_pos; have := r.leaves_pos; simp only [Tr.leaves]; omega
end Go.Proofs.Ytlmppnckimoclaa
