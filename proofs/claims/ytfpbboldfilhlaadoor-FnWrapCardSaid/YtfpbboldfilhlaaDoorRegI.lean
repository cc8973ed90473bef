/-
  A region that draws its order, walked by one invariant over what has come up (each operation once, whatever the orders). No condition.
-/
import Derived.Test.YtfpbboldfilhlaaDoorIn
import Derived.Deep.MidRow
import Derived.Great.Frames
import Derived.OrdersHeld
namespace Go.Proofs.YtfpbboldfilhlaaDoor
open Go.ChangeShapes Go.WideShapes Go.ChangeAt Go.RowKit
set_option linter.unusedVariables false
set_option linter.unusedSimpArgs false
theorem wpOp_intro {P : Program} {ops : Array Oper} {Q : Exit → Act → World → Prop} {K : Act → World → Prop} {i : Nat} {o : Oper} {a : Act} {w : World} (hi : ops[i]? = some o) (hg : o.guard = none) (h : o.wp P a w K Q) : wpOp P ops Q i K a w := by
  unfold wpOp
  simp only [hi]
  rw [if_pos (by simp [Region.wanted, hg])]
  exact .inl h
/-- every operation waits for earlier ones only -/
def earlyB (ops : Array Oper) : Bool := (List.range ops.size).all fun i => match ops[i]? with
  | some o => o.after.all fun e => !Region.binds .any e || decide (e.on < i)
  | none => true
theorem early_of {ops : Array Oper} (h : earlyB ops = true) {i : Nat} {o : Oper} (ho : ops[i]? = some o) {e : Edge} (he : e ∈ o.after) (hb : Region.binds .any e = true) : e.on < i := by
  have hi : i < ops.size := (Array.getElem?_eq_some_iff.1 ho).1
  have h1 := List.all_eq_true.1 h i (List.mem_range.2 hi)
  rw [ho] at h1
  have h2 := (Array.all_eq_true_iff_forall_mem.1 h1) e he
  simpa [hb] using h2
theorem all_listed {ops : Array Oper} (hE : earlyB ops = true) {listed : Array Bool} (hz : listed.size = ops.size) (hr : Region.ready .any ops listed = []) : ∀ i, i < ops.size → listed.getD i false = true := by
  intro i
  induction i using Nat.strongRecOn with
  | _ i ih =>
    intro hi
    cases hl : listed.getD i false with
    | true => rfl
    | false =>
      exfalso
      have hm : i ∈ Region.ready .any ops listed := by
        refine mem_ready.2 ⟨?_, ops[i], Array.getElem?_eq_getElem hi, fun e he hb => ?_⟩
        · have h2 : i < listed.size := by omega
          simp [Array.getD, h2] at hl ⊢
          exact hl
        · have h1 := early_of hE (Array.getElem?_eq_getElem hi) he hb
          exact ih e.on h1 (by omega)
      rw [hr] at hm
      cases hm
theorem listed_set {listed : Array Bool} {i : Nat} (hi : i < listed.size) : (fun j => (listed.setIfInBounds i true).getD j false) = fun j => listed.getD j false || j == i := by
  funext j
  by_cases h : j = i
  · subst h; simp [Array.getD, hi]
  · have h1 : (j == i) = false := by simp [h]
    rw [h1, Bool.or_false]
    simp only [Array.getD_eq_getD_getElem?]
    rw [Array.getElem?_setIfInBounds_ne (Ne.symm h)]
theorem wpAny_inv {P : Program} {ops : Array Oper} {Q : Exit → Act → World → Prop} (hE : earlyB ops = true) (I : (Nat → Bool) → Act → World → Prop)
    (hs : ∀ L a w i o, I L a w → ops[i]? = some o → L i = false → (∀ e ∈ o.after, Region.binds .any e = true → L e.on = true) → o.guard = none ∧ o.wp P a w (fun a' w' => I (fun j => L j || j == i) a' w') Q)
    (hf : ∀ L a w, I L a w → (∀ i, i < ops.size → L i = true) → Q .normal a w) :
    ∀ (fuel : Nat) (listed : Array Bool) (a : Act) (w : World), listed.size = ops.size → listed.toList.countP (fun b => !b) ≤ fuel → I (fun j => listed.getD j false) a w → wpAny P .any ops Q fuel listed a w
  | 0, listed, a, w, hz, hc, hI => by
    have h0 : ∀ b ∈ listed.toList, b = true := by
      have := List.countP_eq_zero.1 (Nat.le_zero.1 hc)
      intro b hb
      have h1 := this b hb
      simpa using h1
    have hall : ∀ i, i < ops.size → listed.getD i false = true := by
      intro i hi
      have h2 : i < listed.size := by omega
      have := h0 listed[i] (by simp)
      simp [Array.getD, h2, this]
    refine ⟨?_, hf _ _ _ hI hall⟩
    rw [List.eq_nil_iff_forall_not_mem]
    intro j hj
    obtain ⟨h1, o, ho, _⟩ := mem_ready.1 hj
    have hlt : j < ops.size := (Array.getElem?_eq_some_iff.1 ho).1
    have h2 : j < listed.size := by omega
    have h3 := hall j hlt
    simp [Array.getD, h2] at h1 h3
    rw [h1] at h3
    cases h3
  | fuel + 1, listed, a, w, hz, hc, hI => by
    refine ⟨fun hr => hf _ _ _ hI (all_listed hE hz hr), fun i hi => ?_⟩
    obtain ⟨h1, o, ho, hd⟩ := mem_ready.1 hi
    have hlt : i < ops.size := (Array.getElem?_eq_some_iff.1 ho).1
    have h2 : i < listed.size := by omega
    have hli : listed[i] = false := by simpa [Array.getD, h2] using h1
    have hL : listed.getD i false = false := by simp [Array.getD, h2, hli]
    obtain ⟨hg, hw⟩ := hs _ a w i o hI ho hL hd
    refine wpOp_intro ho hg (Oper.wp_mono (fun a' w' h => ?_) hw)
    refine wpAny_inv hE I hs hf fuel _ a' w' (by simpa using hz) ?_ ?_
    · rw [Array.toList_setIfInBounds, List.countP_set (by simpa using h2)]
      have h3 : listed.toList[i]'(by simpa using h2) = false := by simpa using hli
      have hpos : 0 < listed.toList.countP (fun b => !b) := by
        refine List.countP_pos_iff.2 ⟨false, ?_, rfl⟩
        rw [← h3]; exact List.getElem_mem _
      simp only [h3]
      simp
      simp at hc hpos
      omega
    · rw [listed_set h2]; exact h
theorem wp_region_inv {P : Program} {ops : Array Oper} {Q : Exit → Act → World → Prop} {id : Nat} {a : Act} {w : World} (hm : P.follows .mixedOrders = true) (hE : earlyB ops = true) (I : (Nat → Bool) → Act → World → Prop)
    (h0 : I (fun _ => false) a w.drew)
    (hs : ∀ L a w i o, I L a w → ops[i]? = some o → L i = false → (∀ e ∈ o.after, Region.binds .any e = true → L e.on = true) → o.guard = none ∧ o.wp P a w (fun a' w' => I (fun j => L j || j == i) a' w') Q)
    (hf : ∀ L a w, I L a w → (∀ i, i < ops.size → L i = true) → Q .normal a w) : (Code.region id ops true).wp P Q a w := by
  refine wp_region_any hm (wpAny_inv hE I hs hf ops.size _ a _ (by simp) ?_ ?_)
  · simp [List.countP_replicate]
  · have e : (fun j => (Array.replicate ops.size false).getD j false) = fun _ => false := by
      funext j
      simp [Array.getD]
    rw [e]
    exact h0
/-- what an operation is, and which it waits for -/
structure OpIs (ops : Array Oper) (i : Nat) (op : Op) (dst : Option Tmp) (deps : List Nat) : Prop where
  ex : ∃ o, ops[i]? = some o ∧ o.op = op ∧ o.dst = dst ∧ o.guard = none ∧ (deps.all fun d => o.after.any fun e => Region.binds .any e && e.on == d) = true
theorem OpIs.get {ops : Array Oper} {i : Nat} {op : Op} {dst : Option Tmp} {deps : List Nat} (h : OpIs ops i op dst deps) {o : Oper} (ho : ops[i]? = some o) {L : Nat → Bool} (hd : ∀ e ∈ o.after, Region.binds .any e = true → L e.on = true) : o.op = op ∧ o.dst = dst ∧ o.guard = none ∧ ∀ d ∈ deps, L d = true := by
  obtain ⟨o', ho', h1, h2, h3, h4⟩ := h.ex
  obtain rfl : o' = o := Option.some.inj (ho'.symm.trans ho)
  refine ⟨h1, h2, h3, fun d hm => ?_⟩
  have h5 := List.all_eq_true.1 h4 d hm
  obtain ⟨j, hj, h6⟩ := Array.any_eq_true.1 h5
  simp only [Bool.and_eq_true, beq_iff_eq] at h6
  rw [← h6.2]
  exact hd _ (Array.getElem_mem hj) h6.1
section
variable {P : Program} {o : Oper} {a : Act} {w w2 : World} {K : Act → World → Prop} {Q : Exit → Act → World → Prop}
theorem wp_val {v : Value} (hrun : (execOp a.eval o).run P w = .ok (.value v) w2) (h : K (a.put o.dst v) w2) : o.wp P a w K Q := by
  unfold Oper.wp
  rw [hrun]
  exact h
theorem wp_move {x : Operand} (ho : o.op = .move x) {v : Value} (hx : a.eval x = v) (h : K (a.put o.dst v) w) : o.wp P a w K Q := by
  refine wp_val (v := v) (w2 := w) ?_ h
  unfold execOp
  simp only [ho, hx, Sem.run_pure]
theorem wp_assign {x : Operand} (ho : o.op = .assign x) {v : Value} (hx : a.eval x = v) (h : K (a.put o.dst v) w) : o.wp P a w K Q := by
  refine wp_val (v := v) (w2 := w) ?_ h
  unfold execOp
  simp only [ho, hx, Sem.run_pure]
theorem wp_extract {x : Operand} {i : Nat} (ho : o.op = .extract x i) {vs : Array Value} {v : Value} (hx : a.eval x = .tuple vs) (hv : vs[i]? = some v) (h : K (a.put o.dst v) w) : o.wp P a w K Q := by
  refine wp_val (v := v) (w2 := w) ?_ h
  unfold execOp
  simp only [ho, hx, Instr.extract, hv, Sem.run_bind, Sem.run_pure, Result.andThen_ok]
theorem wp_alloc {t : TypeId} (ho : o.op = .alloc t) {v : Value} (hrun : (Instr.alloc t true (.tuple #[])).run P w = .ok v w2) (h : K (a.put o.dst v) w2) : o.wp P a w K Q := by
  refine wp_val (v := v) (w2 := w2) ?_ h
  unfold execOp
  simp only [ho, Sem.run_bind, hrun, Sem.run_pure, Result.andThen_ok]
theorem wp_convert {s d : TypeId} {x : Operand} (ho : o.op = .convert s d x) {u v : Value} (hx : a.eval x = u) (hrun : (convert s d u).run P w = .ok v w2) (h : K (a.put o.dst v) w2) : o.wp P a w K Q := by
  refine wp_val (v := v) (w2 := w2) ?_ h
  unfold execOp
  simp only [ho, hx, Sem.run_bind, hrun, Sem.run_pure, Result.andThen_ok]
theorem wp_enter {f : FuncId} {args : Array Value} (hrun : (execOp a.eval o).run P w = .ok (.enter f args) w2) (hc : Calls P f args w2 fun e w' => ∃ v, e = .returned v ∧ K (a.put o.dst v) w') : o.wp P a w K Q := by
  unfold Oper.wp
  rw [hrun, Oper.upon_enter]
  refine hc.mono ?_
  rintro e w' ⟨v, rfl, h⟩
  exact h
end
end Go.Proofs.YtfpbboldfilhlaaDoor
