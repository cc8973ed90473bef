/-
  Layouts' trees in memory: each part a block of its own. Contracts of the given program's need and fits. Conditions: the tree lies so, its panes have right numbers, it has no more than a thousand.
-/
import Derived.Test.YtaacccooidehlaaDoorLayOps
import Derived.Test.YtaacccooidehlaaDoorIn
namespace Go.Proofs.YtaacccooidehlaaDoor
open Go.ChangeShapes Go.WideShapes Go.ChangeAt Go.RowKit
set_option linter.unusedVariables false

/-- the shape of a tree in memory: the block of each part -/
inductive Sh where
  | lf (b : Nat)
  | nd (b : Nat) (l r : Sh)
def Sh.root : Sh → Nat
  | .lf b => b
  | .nd b _ _ => b
def Sh.bs : Sh → List Nat
  | .lf b => [b]
  | .nd b l r => b :: (l.bs ++ r.bs)
theorem Sh.root_mem (s : Sh) : s.root ∈ s.bs := by cases s <;> simp [Sh.root, Sh.bs]
/-- a tree in memory; what the cells of a part are is handed in -/
def TreG (lfC : Int → Array Value) (ndC : Bool → Int → Nat → Nat → Array Value) (T : TypeId) (w : World) : Sh → Tr → Prop
  | .lf b, .leaf p => w.heap[b]? = some (.cells (lfC p) T (0, 0))
  | .nd b sl sr, .node rows size l r => w.heap[b]? = some (.cells (ndC rows size sl.root sr.root) T (0, 0)) ∧ TreG lfC ndC T w sl l ∧ TreG lfC ndC T w sr r
  | _, _ => False
section
variable {lfC : Int → Array Value} {ndC : Bool → Int → Nat → Nat → Array Value} {T : TypeId}
theorem TreG.congr : ∀ {s : Sh} {t : Tr} {w w' : World}, TreG lfC ndC T w s t → (∀ b ∈ s.bs, w'.heap[b]? = w.heap[b]?) → TreG lfC ndC T w' s t
  | .lf b, .leaf p, w, w', h, k => (k b (by simp [Sh.bs])).trans h
  | .nd b sl sr, .node rows size l r, w, w', h, k => ⟨(k b (by simp [Sh.bs])).trans h.1, TreG.congr h.2.1 fun c hc => k c (by simp [Sh.bs, hc]), TreG.congr h.2.2 fun c hc => k c (by simp [Sh.bs, hc])⟩
  | .lf _, .node _ _ _ _, _, _, h, _ => h.elim
  | .nd _ _ _, .leaf _, _, _, h, _ => h.elim
theorem TreG.lt : ∀ {s : Sh} {t : Tr} {w : World}, TreG lfC ndC T w s t → ∀ b ∈ s.bs, b < w.heap.size
  | .lf b, .leaf p, w, h, c, hc => by simp only [Sh.bs, List.mem_singleton] at hc; subst hc; exact box_lt h
  | .nd b sl sr, .node rows size l r, w, h, c, hc => by
    simp only [Sh.bs, List.mem_cons, List.mem_append] at hc
    rcases hc with rfl | hc | hc
    · exact box_lt h.1
    · exact TreG.lt h.2.1 c hc
    · exact TreG.lt h.2.2 c hc
  | .lf _, .node _ _ _ _, _, h, _, _ => h.elim
  | .nd _ _ _, .leaf _, _, h, _, _ => h.elim
theorem TreG.below {C : Nat} {s : Sh} {t : Tr} {w w' : World} (h : TreG lfC ndC T w s t) (hb : Below C w w') (hC : w.heap.size ≤ C) : TreG lfC ndC T w' s t :=
  h.congr fun b hbs => hb.block b (Nat.lt_of_lt_of_le (h.lt b hbs) hC)
theorem TreG.leaf {s : Sh} {p : Int} {w : World} (h : TreG lfC ndC T w s (.leaf p)) : ∃ b, s = .lf b ∧ w.heap[b]? = some (.cells (lfC p) T (0, 0)) := by
  cases s with
  | lf b => exact ⟨b, rfl, h⟩
  | nd b l r => exact h.elim
theorem TreG.node {s : Sh} {rows : Bool} {size : Int} {l r : Tr} {w : World} (h : TreG lfC ndC T w s (.node rows size l r)) : ∃ b sl sr, s = .nd b sl sr ∧ w.heap[b]? = some (.cells (ndC rows size sl.root sr.root) T (0, 0)) ∧ TreG lfC ndC T w sl l ∧ TreG lfC ndC T w sr r := by
  cases s with
  | lf b => exact h.elim
  | nd b sl sr => exact ⟨b, sl, sr, rfl, h⟩
end
/-- the cells of a part of the given program's trees -/
def areaLf (p : Int) : Array Value := #[.int .i64 p, .bool false, .int .i64 0, .pointer none, .pointer none]
def areaNd (rows : Bool) (size : Int) (a b : Nat) : Array Value := #[.int .i64 0, .bool rows, .int .i64 size, .pointer (some ⟨a, 0, none⟩), .pointer (some ⟨b, 0, none⟩)]
/-- a tree of the given program in memory -/
def TreI (w : World) (s : Sh) (t : Tr) : Prop := TreG areaLf areaNd 77 w s t
theorem ret_ints {a b c d : Int} (h1 : a = c) (h2 : b = d) : Ending.returned (.tuple #[.int .i64 a, .int .i64 b]) = .returned (.tuple #[.int .i64 c, .int .i64 d]) := by rw [h1, h2]
theorem okN_ne {p : Int} (h : (Tr.leaf p).okN) : ((p : Int) != 0) = true := by have := h p (by simp [Tr.panes]); rw [bne_iff_ne]; omega

set_option maxHeartbeats 400000 in
theorem need_any : ∀ (t : Tr) (s : Sh) (w : World), TreI w s t → t.okN → t.leaves ≤ 1000 →
    Calls Tryd.prog 56 #[.pointer (some ⟨s.root, 0, none⟩)] w fun e w' => e = .returned (.tuple #[.int .i64 t.needW, .int .i64 t.needH]) ∧ w = w' := by
  intro t
  induction t with
  | leaf p =>
    intro s w h ho hl
    obtain ⟨b, rfl, hb⟩ := TreG.leaf h
    have x := box_cells hb
    have hp := okN_ne ho
    unfold areaLf at x
    show Calls _ _ #[.pointer (some ⟨b, 0, none⟩)] _ _
    clear h hb ho hl
    go_enter Tryd.func56, Tryd.ntmps56
    go_wp2
    go_ret2
    exact ⟨rfl, rfl⟩
  | node rows size l r ihl ihr =>
    intro s w h ho hl
    obtain ⟨b, sl, sr, rfl, hb, h1, h2⟩ := TreG.node h
    have ho' := Tr.okN_node.1 ho
    simp only [Tr.leaves] at hl
    have HL := Lib.hid (ihl sl w h1 ho'.1 (by omega))
    have HR := Lib.hid (ihr sr w h2 ho'.2 (by omega))
    have n1 := l.need_two
    have n2 := r.need_two
    have HW : Hid ((Tr.node rows size l r).needW = if rows then max l.needW r.needW else l.needW + r.needW) := rfl
    have HH : Hid ((Tr.node rows size l r).needH = if rows then l.needH + r.needH else max l.needH r.needH) := rfl
    have x := box_cells hb
    unfold areaNd at x
    show Calls _ _ #[.pointer (some ⟨b, 0, none⟩)] _ _
    generalize (Tr.node rows size l r).needW = NW at *
    generalize (Tr.node rows size l r).needH = NH at *
    generalize l.needW = a1 at *
    generalize l.needH = a2 at *
    generalize r.needW = b1 at *
    generalize r.needH = b2 at *
    generalize sl.root = gl at *
    generalize sr.root = gr at *
    have q1 : a1 ≤ 2000 := by omega
    have q2 : a2 ≤ 2000 := by omega
    have q3 : b1 ≤ 2000 := by omega
    have q4 : b2 ≤ 2000 := by omega
    have q5 : 2 ≤ a1 := by omega
    have q6 : 2 ≤ a2 := by omega
    have q7 : 2 ≤ b1 := by omega
    have q8 : 2 ≤ b2 := by omega
    clear h hb h1 h2 ho ho' hl ihl ihr n1 n2
    cases hr : rows
    all_goals
      rw [hr] at HW HH x
      clear hr
      go_enter Tryd.func56, Tryd.ntmps56
      go_wp2_with fail
      refine HL.out.mono ?_
      rintro e w1 ⟨rfl, rfl⟩
      go_wp2_with fail
      refine HR.out.mono ?_
      rintro e w1 ⟨rfl, rfl⟩
      go_wp2
      all_goals
        go_ret2
        exact ⟨ret_ints (by rw [HW.out]; simp <;> omega) (by rw [HH.out]; simp <;> omega), rfl⟩
end Go.Proofs.YtaacccooidehlaaDoor
