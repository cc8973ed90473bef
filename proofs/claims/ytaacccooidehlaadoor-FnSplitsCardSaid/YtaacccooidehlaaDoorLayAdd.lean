/-
  Contract of the given program's layoutOf$1 (the closure that appends a tree's parts) and of layoutOf. Conditions: the tree lies so, the closure's captured variables hold what layoutOf lays into them.
-/
import Derived.Test.YtaacccooidehlaaDoorLayMark
import Derived.Test.YtaacccooidehlaaDoorLayTree
import Derived.Laws.EntriesVeiled
import Derived.Deep.AppendLies
import Derived.Deep.RegionLaw
import Derived.Deep.Cut
import Derived.Deep.RegionHeld3
import Derived.Deep.Onto
namespace Go.Proofs.YtaacccooidehlaaDoor
open Go.ChangeShapes Go.WideShapes Go.ChangeAt Go.RowKit
set_option linter.unusedVariables false
set_option linter.unusedSimpArgs false
set_option maxRecDepth 100000
theorem partsV_one (l : List PartV) : ∀ u ∈ partsV l, u.oneCell' = true := by
  intro u hu
  simp only [partsV, List.mem_flatMap] at hu
  obtain ⟨a, _, hu⟩ := hu
  simp only [partC, List.mem_cons, List.not_mem_nil, or_false] at hu
  rcases hu with rfl | rfl | rfl | rfl | rfl <;> rfl
/-- an owned row is not a block of another type -/
theorem own_other {w : World} {b : Nat} {cs : Array Value} {T : TypeId} {fr : Nat × Nat} {base e size n : Nat} {v : Value} {xs : List Value} (hb : w.heap[b]? = some (.cells cs T fr)) (ho : w.ownsRow base e size v n xs) (hne : e ≠ T) : v.ownBlock ≠ some b := by
  rcases ho.2 with ⟨rfl, _⟩ | ⟨g, cap, cur, rfl, _, hh, _⟩
  · simp [Value.ownBlock]
  · intro he
    have : g = b := by simpa [Value.ownBlock] using he
    subst this
    rw [hb] at hh
    injection hh with hh
    injection hh with _ ht
    exact hne ht.symm
def addF (lb ab : Nat) : Value := .func (Fn.func 43) #[] #[.pointer (some ⟨lb, 0, none⟩), .pointer (some ⟨ab, 0, none⟩)]
/-- the closure's variables: the layout's slice, and the closure itself -/
structure Add (C lb ab : Nat) (ao : Option Addr) (cap n : Nat) (ps : List PartV) (w : World) : Prop where
  hl : w.heap[lb]? = some (.cells #[.slice ao n cap] 26 (0, 0))
  ha : w.heap[ab]? = some (.cells #[addF lb ab] 78 (0, 0))
  own : w.ownsRow C 54 5 (.slice ao n cap) n (partsV ps)
  cl : C ≤ lb
  ca : C ≤ ab
  len : ps.length = n
theorem Add.drew {C lb ab : Nat} {ao : Option Addr} {cap n : Nat} {ps : List PartV} {w : World} (h : Add C lb ab ao cap n ps w) : Add C lb ab ao cap n ps w.drew := ⟨h.hl, h.ha, h.own, h.cl, h.ca, h.len⟩
/-- behind the append and the store of the new slice -/
theorem add_arm {C lb ab : Nat} {ao : Option Addr} {cap n : Nat} {ps : List PartV} {w : World} (h : Add C lb ab ao cap n ps w) (p : PartV) (hC : C ≤ w.heap.size) :
    ∀ (g2 cap2 : Nat) (w2 : World), w2.ownsRow C 54 5 (.slice (some ⟨g2, 0, none⟩) (n + 1) cap2) (n + 1) (partsV ps ++ partC p) → (w.alloc (.cells #[.int .i64 p.pane, .bool p.rows, .int .i64 p.size, .int .i64 p.left, .int .i64 p.right] 54)).drew.grownBy w2 (Value.slice ao n cap).ownBlock →
      ∃ w3, w2.setCell ⟨lb, 0, none⟩ (.slice (some ⟨g2, 0, none⟩) (n + 1) cap2) = w3 ∧ w2.cell? ⟨lb, 0, none⟩ = some (.slice ao n cap) ∧ w2.frozen? ⟨lb, 0, none⟩ = false ∧ Hid (Add C lb ab (some ⟨g2, 0, none⟩) cap2 (n + 1) (ps ++ [p]) w3) ∧ Hid (Below C w w3) ∧ Hid (Below C w w2) := by
  intro g2 cap2 w2 hown2 hgrow2
  have hlb := box_lt h.hl
  have hab := box_lt h.ha
  have hsz : (w.alloc (.cells #[.int .i64 p.pane, .bool p.rows, .int .i64 p.size, .int .i64 p.left, .int .i64 p.right] 54)).drew.heap.size = w.heap.size + 1 := by show (w.alloc _).heap.size = _; simp
  have P2 := (hgrow2.block lb (by omega) (fun e => own_other h.hl h.own (by decide) e.symm)).trans ((Below.heap_alloc w _ lb hlb).trans h.hl)
  have A2 := (hgrow2.block ab (by omega) (fun e => own_other h.ha h.own (by decide) e.symm)).trans ((Below.heap_alloc w _ ab hab).trans h.ha)
  have hB2 : Below C w w2 := (((Below.refl C w).alloc hC _).drew).grown hgrow2 (by omega) (fun j hj => (h.own.lt j hj).1)
  have hne : lb ≠ ab := by
    intro e; subst e
    have := h.hl.symm.trans h.ha
    injection this with this
    injection this with _ ht
    exact absurd ht (by decide)
  have hg2 : (Value.slice (some ⟨g2, 0, none⟩) (n + 1) cap2).ownBlock ≠ some lb := own_other P2 hown2 (by decide)
  refine ⟨_, rfl, box_cells P2 0, box_free P2 0, ?_, ?_, hB2⟩
  · refine ⟨set_heap P2 0 _, ?_, ?_, h.cl, h.ca, by simp [h.len]⟩
    · rw [Below.heap_setCell _ _ _ _ (by exact fun e => hne e.symm)]; exact A2
    · rw [partsV_append, show partsV [p] = partC p from by simp [partsV]]
      exact hown2.kept grownBy_setCell (.inr hg2)
  · exact hB2.setCell (p := ⟨lb, 0, none⟩) h.cl _
def AddPost (t : Tr) (C lb ab n : Nat) (ps : List PartV) (w : World) (e : Ending) (w' : World) : Prop :=
  e = .returned (.int .i64 n) ∧ (∃ ao' cap', Add C lb ab ao' cap' (n + t.len) (ps ++ t.parts n) w') ∧ Below C w w'
theorem partsV_left : ∀ (qs : List PartV) (k : Nat) (q : PartV) (a : Int), qs[k]? = some q → (partsV qs).set (k * 5 + 3) (.int .i64 a) = partsV (qs.set k ⟨q.pane, q.rows, q.size, a, q.right⟩)
  | [], k, q, a, h => by simp at h
  | b :: l, 0, q, a, h => by
    simp only [List.getElem?_cons_zero, Option.some.injEq] at h
    subst h
    rfl
  | b :: l, k + 1, q, a, h => by
    have ih := partsV_left l k q a (by simpa using h)
    show (partC b ++ partsV l).set ((k + 1) * 5 + 3) _ = partC b ++ partsV (l.set k _)
    rw [List.set_append_right _ _ (by show 5 ≤ _; omega), ← ih]
    congr 2
    show (k + 1) * 5 + 3 - 5 = _
    omega
theorem partsV_right : ∀ (qs : List PartV) (k : Nat) (q : PartV) (a : Int), qs[k]? = some q → (partsV qs).set (k * 5 + 4) (.int .i64 a) = partsV (qs.set k ⟨q.pane, q.rows, q.size, q.left, a⟩)
  | [], k, q, a, h => by simp at h
  | b :: l, 0, q, a, h => by
    simp only [List.getElem?_cons_zero, Option.some.injEq] at h
    subst h
    rfl
  | b :: l, k + 1, q, a, h => by
    have ih := partsV_right l k q a (by simpa using h)
    show (partC b ++ partsV l).set ((k + 1) * 5 + 4) _ = partC b ++ partsV (l.set k _)
    rw [List.set_append_right _ _ (by show 5 ≤ _; omega), ← ih]
    congr 2
    show (k + 1) * 5 + 4 - 5 = _
    omega
/-- the row's cells of a part's left and right, for the stores -/
theorem Add.cells {C lb ab g cap m : Nat} {qs : List PartV} {w : World} (h : Add C lb ab (some ⟨g, 0, none⟩) cap m qs w) {k : Nat} {q : PartV} (hk : qs[k]? = some q) :
    w.cell? ⟨g, k * 5 + 3, none⟩ = some (.int .i64 q.left) ∧ w.cell? ⟨g, k * 5 + 4, none⟩ = some (.int .i64 q.right) ∧ (∀ i, w.frozen? ⟨g, i, none⟩ = false) ∧ k < m ∧ lb ≠ g ∧ ab ≠ g ∧ C ≤ g := by
  have hkl : k < qs.length := (List.getElem?_eq_some_iff.1 hk).1
  have hkm : k < m := by rw [← h.len]; exact hkl
  refine ⟨?_, ?_, h.own.frozenAt, hkm, ?_, ?_, (h.own.lt g rfl).1⟩
  · rw [h.own.cellAt _ (by omega)]; exact partsV_get qs k q hk 3 (by decide)
  · rw [h.own.cellAt _ (by omega)]; exact partsV_get qs k q hk 4 (by decide)
  · intro e; subst e; exact own_other h.hl h.own (by decide) rfl
  · intro e; subst e; exact own_other h.ha h.own (by decide) rfl
theorem Add.stored {C lb ab g cap m : Nat} {qs : List PartV} {w : World} (h : Add C lb ab (some ⟨g, 0, none⟩) cap m qs w) (j : Nat) (u : Value) (qs' : List PartV) (hq : (partsV qs).set j u = partsV qs') (hl : qs'.length = qs.length) :
    Add C lb ab (some ⟨g, 0, none⟩) cap m qs' (w.setCell ⟨g, j, none⟩ u) ∧ Below C w (w.setCell ⟨g, j, none⟩ u) := by
  have h1 : lb ≠ g := by intro e; subst e; exact own_other h.hl h.own (by decide) rfl
  have h2 : ab ≠ g := by intro e; subst e; exact own_other h.ha h.own (by decide) rfl
  have h3 := (h.own.lt g rfl).1
  refine ⟨⟨?_, ?_, ?_, h.cl, h.ca, by rw [hl]; exact h.len⟩, (Below.refl C w).setCell (p := ⟨g, j, none⟩) h3 _⟩
  · rw [Below.heap_setCell _ _ _ _ h1]; exact h.hl
  · rw [Below.heap_setCell _ _ _ _ h2]; exact h.ha
  · rw [← hq]; exact (h.own.stored j u).1
/-- both stores, in either order -/
theorem Add.both {C lb ab g cap m : Nat} {qs : List PartV} {w : World} (h : Add C lb ab (some ⟨g, 0, none⟩) cap m qs w) {k : Nat} {p0 s0 l0 r0 : Int} {w0 : Bool} (hk : qs[k]? = some ⟨p0, w0, s0, l0, r0⟩) (L R : Int) :
    (Add C lb ab (some ⟨g, 0, none⟩) cap m (qs.set k ⟨p0, w0, s0, L, R⟩) ((w.setCell ⟨g, k * 5 + 3, none⟩ (.int .i64 L)).setCell ⟨g, k * 5 + 4, none⟩ (.int .i64 R)) ∧ Below C w ((w.setCell ⟨g, k * 5 + 3, none⟩ (.int .i64 L)).setCell ⟨g, k * 5 + 4, none⟩ (.int .i64 R))) ∧
    (Add C lb ab (some ⟨g, 0, none⟩) cap m (qs.set k ⟨p0, w0, s0, L, R⟩) ((w.setCell ⟨g, k * 5 + 4, none⟩ (.int .i64 R)).setCell ⟨g, k * 5 + 3, none⟩ (.int .i64 L)) ∧ Below C w ((w.setCell ⟨g, k * 5 + 4, none⟩ (.int .i64 R)).setCell ⟨g, k * 5 + 3, none⟩ (.int .i64 L))) := by
  have hkl : k < qs.length := (List.getElem?_eq_some_iff.1 hk).1
  obtain ⟨a1, b1⟩ := h.stored (k * 5 + 3) (.int .i64 L) _ (partsV_left qs k _ L hk) (by simp)
  obtain ⟨a2, b2⟩ := h.stored (k * 5 + 4) (.int .i64 R) _ (partsV_right qs k _ R hk) (by simp)
  obtain ⟨a3, b3⟩ := a1.stored (k * 5 + 4) (.int .i64 R) _ (partsV_right _ k ⟨p0, w0, s0, L, r0⟩ R (by simp [hkl])) (by simp)
  obtain ⟨a4, b4⟩ := a2.stored (k * 5 + 3) (.int .i64 L) _ (partsV_left _ k ⟨p0, w0, s0, l0, R⟩ L (by simp [hkl])) (by simp)
  simp only [List.set_set] at a3 a4
  exact ⟨⟨a3, b1.trans b3⟩, ⟨a4, b2.trans b4⟩⟩
/-- what is told of a tree's root, whether leaf or node -/
def RootIs (t : Tr) (s : Sh) (w : World) (c : Nat) (pane : Int) (rows : Bool) (size : Int) (lp rp : Option Addr) : Prop :=
  (t = .leaf pane ∧ pane ≠ 0 ∧ rows = false ∧ size = 0) ∨ ∃ l r sl sr, t = .node rows size l r ∧ s = .nd c sl sr ∧ pane = 0 ∧ lp = some ⟨sl.root, 0, none⟩ ∧ rp = some ⟨sr.root, 0, none⟩ ∧ TreI w sl l ∧ TreI w sr r ∧ l.okP ∧ r.okP
theorem root_any {t : Tr} {s : Sh} {w : World} (h : TreI w s t) (hp : t.okP) : ∃ pane rows size lp rp, w.heap[s.root]? = some (.cells #[.int .i64 pane, .bool rows, .int .i64 size, .pointer lp, .pointer rp] 77 (0, 0)) ∧ RootIs t s w s.root pane rows size lp rp := by
  cases t with
  | leaf p =>
    obtain ⟨c, rfl, hc⟩ := TreG.leaf h
    exact ⟨p, false, 0, none, none, hc, .inl ⟨rfl, hp, rfl, rfl⟩⟩
  | node rows size l r =>
    obtain ⟨c, sl, sr, rfl, hc, h1, h2⟩ := TreG.node h
    exact ⟨0, rows, size, _, _, hc, .inr ⟨l, r, sl, sr, rfl, rfl, rfl, rfl, rfl, h1, h2, hp.2.2.1, hp.2.2.2⟩⟩
attribute [local irreducible] wpList
set_option maxHeartbeats 8000000 in
theorem add_any : ∀ (N : Nat) (t : Tr) (s : Sh) (w : World) (C lb ab : Nat) (ao : Option Addr) (cap n : Nat) (ps : List PartV), t.len ≤ N → TreI w s t → t.okP → Add C lb ab ao cap n ps w → C ≤ w.heap.size → (∀ b ∈ s.bs, b < C) → n + t.len ≤ 1000 →
    Calls Tryd.prog 43 #[.pointer (some ⟨s.root, 0, none⟩), .pointer (some ⟨lb, 0, none⟩), .pointer (some ⟨ab, 0, none⟩)] w (AddPost t C lb ab n ps w) := by
  intro N
  induction N with
  | zero => intro t s w C lb ab ao cap n ps hN; have := t.len_pos; omega
  | succ N ih =>
    intro t s w C lb ab ao cap n ps hN h hp hA hC hs hn
    have htl := t.len_pos
    obtain ⟨i0, hi, iz0, iz1, iz2⟩ := info_parts Tryd.info_part
    obtain ⟨pane, rows, size, lp, rp, hc, hrt⟩ := root_any h hp
    obtain ⟨c, hce⟩ : ∃ c, s.root = c := ⟨_, rfl⟩
    have hcC : c < C := by rw [← hce]; exact hs _ s.root_mem
    rw [hce] at hc hrt
    rw [hce]
    have HC := Lib.hid hc
    have x0 := box_cells hc 0
    have x1 := box_cells hc 1
    have x2 := box_cells hc 2
    simp only [List.getElem?_toArray, List.getElem?_cons_zero, List.getElem?_cons_succ] at x0 x1 x2
    have l0 := box_cells hA.hl 0
    simp only [List.getElem?_toArray, List.getElem?_cons_zero] at l0
    have la : (w.alloc (.cells #[.int .i64 pane, .bool rows, .int .i64 size, .int .i64 (-1), .int .i64 (-1)] 54)).cell? ⟨lb, 0, none⟩ = some (.slice ao n cap) := (World.cell?_alloc_lt w _ ⟨lb, 0, none⟩ (box_lt hA.hl)).trans l0
    have HOWN := Lib.hid hA.own
    have HPL : Hid (ps.length = n) := hA.len
    have HARM := Lib.hid (add_arm hA ⟨pane, rows, size, -1, -1⟩ hC)
    have HRT := Lib.hid hrt
    have HIH := Lib.hid ih
    have HS := Lib.hid hs
    have hn1 : n + 1 ≤ 1000 := by omega
    have HN := Lib.hid hN
    have HNN := Lib.hid hn
    clear h hc hA hs hp hrt ih hce hN hn htl
    go_enter Tryd.func43, Tryd.ntmps43
    go_wp2_with fail
    go_cut [] from 6 (fun wx => ∃ g2 cap2, Hid (Add C lb ab (some ⟨g2, 0, none⟩) cap2 (n + 1) (ps ++ [⟨pane, rows, size, -1, -1⟩]) wx) ∧ Hid (Below C w wx))
    case first =>
      go_region_law (refine step_append_lies _ rfl (.tmp 12) (.tmp 26) 24 rfl C 54 i0 (.agg #[.int .i64 0, .bool false, .int .i64 0, .int .i64 0, .int .i64 0]) 5 40 Tryd.underlying24 hi iz0 iz1 iz2 rfl (by decide) (.slice ao n cap) n (partsV ps) (by simp [Act.eval]) (HOWN.out.drew.alloc _) ⟨w.heap.size, 0, none⟩ 1 1 [.int .i64 pane, .bool rows, .int .i64 size, .int .i64 (-1), .int .i64 (-1)] (by simp [Act.eval]) rfl (fun j u hu => World.news_of_block (heap_alloc_new _ _) j u hu) (by intro u hu; simp at hu; rcases hu with rfl | rfl | rfl | rfl | rfl <;> rfl) (by decide) (by unfold maxLen; omega) (by omega) (by simp; omega) _ rfl ?_; intro g2 cap2 w2 hown2 hgrow2 hlie2 hlt2; obtain ⟨w3, e3, y2, f2, hA3, hB3, hB2⟩ := HARM.out g2 cap2 w2 hown2 hgrow2; clear hown2 hgrow2 hlie2 hlt2)
      all_goals
        go_wp2_with fail
        go_meet
        case rel => exact ⟨g2, cap2, hA3, hB3⟩
    clear x0 x1 x2 l0 la HARM HOWN
    obtain ⟨g2, cap2, hA3, hB3⟩ := hcut
    generalize wc = w3 at *
    have hC3 : C ≤ w3.heap.size := Nat.le_trans hC hB3.out.size
    have HC3 : Hid (w3.heap[c]? = some (.cells #[.int .i64 pane, .bool rows, .int .i64 size, .pointer lp, .pointer rp] 77 (0, 0))) := (hB3.out.block c hcC).trans HC.out
    have z0 := box_cells HC3.out 0
    simp only [List.getElem?_toArray, List.getElem?_cons_zero, List.getElem?_cons_succ] at z0
    rcases HRT.out with ⟨rfl, hp, rfl, rfl⟩ | ⟨l, r, sl, sr, rfl, rfl, rfl, rfl, rfl, h1, h2, p1, p2⟩
    · have hp0 : ((pane : Int) == 0) = false := by simp [hp]
      clear HRT hp
      go_wp2
      go_ret
      exact ⟨rfl, ⟨_, _, hA3.out⟩, hB3.out⟩
    · have hN' := HN.out
      have hn' := HNN.out
      simp only [Tr.len] at hN' hn'
      have rl := r.len_pos
      have ll := l.len_pos
      obtain ⟨kL, hkL⟩ : ∃ x : Int, ((n + 1 : Nat) : Int) = x := ⟨_, rfl⟩
      obtain ⟨kR, hkR⟩ : ∃ x : Int, ((n + 1 + l.len : Nat) : Int) = x := ⟨_, rfl⟩
      have T1 : TreI w3 sl l := TreG.congr h1 fun b hb => hB3.out.block b (HS.out b (by simp [Sh.bs, hb]))
      have HL := Lib.hid (HIH.out l sl w3.drew C lb ab (some ⟨g2, 0, none⟩) cap2 (n + 1) (ps ++ [⟨0, rows, size, -1, -1⟩]) (by omega) (TreG.drew T1) p1 hA3.out.drew hC3 (fun b hb => HS.out b (by simp [Sh.bs, hb])) (by omega))
      unfold AddPost at HL
      rw [hkL] at HL
      have HRR : Hid (∀ (W : World) (ao' : Option Addr) (cap' : Nat), Add C lb ab ao' cap' (n + 1 + l.len) (ps ++ [⟨0, rows, size, -1, -1⟩] ++ l.parts (n + 1)) W → Below C w W → Calls Tryd.prog 43 #[.pointer (some ⟨sr.root, 0, none⟩), .pointer (some ⟨lb, 0, none⟩), .pointer (some ⟨ab, 0, none⟩)] W (fun e w' => e = .returned (.int .i64 kR) ∧ (∃ ao' cap', Add C lb ab ao' cap' (n + 1 + l.len + r.len) (ps ++ [⟨0, rows, size, -1, -1⟩] ++ l.parts (n + 1) ++ r.parts (n + 1 + l.len)) w') ∧ Below C W w')) := fun W ao' cap' hA' hb' => by
        rw [← hkR]
        exact HIH.out r sr W C lb ab ao' cap' (n + 1 + l.len) _ (by omega) (TreG.congr h2 fun b hb => hb'.block b (HS.out b (by simp [Sh.bs, hb]))) p2 hA' (Nat.le_trans hC hb'.size) (fun b hb => HS.out b (by simp [Sh.bs, hb])) (by omega)
      have HKL : Hid (kL = ((n + 1 : Nat) : Int)) := hkL.symm
      have HKR : Hid (kR = ((n + 1 + l.len : Nat) : Int)) := hkR.symm
      have a0 := box_cells hA3.out.ha 0
      have z3 := box_cells HC3.out 3
      simp only [List.getElem?_toArray, List.getElem?_cons_zero, List.getElem?_cons_succ] at a0 z3
      unfold addF at a0
      clear hkL hkR h1 h2 p1 p2 T1 HRT HIH hN' hn' rl ll HN HNN
      go_wp2_with fail
      refine wp_region_still_tail 5 (by kernel_rfl) (by kernel_rfl) ?_
      simp only [List.take_succ_cons, List.take_zero, List.drop_succ_cons, List.drop_zero]
      repeat still_step
      refine wpStill_nil ?_
      change wpList _ _ _ _ _ w3.drew
      go_wp2_with fail
      refine HL.out.mono ?_
      rintro e w4 ⟨rfl, ⟨ao4, cap4, hA4⟩, hb4⟩
      have hb4' : Below C w3 w4 := ⟨hb4.os, hb4.tape, hb4.output, hb4.size, hb4.block⟩
      have HB4 : Hid (Below C w w4) := hB3.out.trans hb4'
      have HC4 : Hid (w4.heap[c]? = some (.cells #[.int .i64 0, .bool rows, .int .i64 size, .pointer (some ⟨sl.root, 0, none⟩), .pointer (some ⟨sr.root, 0, none⟩)] 77 (0, 0))) := (HB4.out.block c hcC).trans HC.out
      have hC4 : C ≤ w4.heap.size := Nat.le_trans hC3 hb4'.size
      have HR := Lib.hid (HRR.out w4.drew ao4 cap4 hA4.drew ⟨HB4.out.os, HB4.out.tape, HB4.out.output, HB4.out.size, HB4.out.block⟩)
      clear a0 z3 z0 hb4 hb4' HRR HL
      have a0 := box_cells hA4.ha 0
      have z4 := box_cells HC4.out 4
      simp only [List.getElem?_toArray, List.getElem?_cons_zero, List.getElem?_cons_succ] at a0 z4
      unfold addF at a0
      clear hA4
      go_wp2_with fail
      refine wp_region_still_tail 5 (by kernel_rfl) (by kernel_rfl) ?_
      simp only [List.take_succ_cons, List.take_zero, List.drop_succ_cons, List.drop_zero]
      repeat still_step
      refine wpStill_nil ?_
      change wpList _ _ _ _ _ w4.drew
      go_wp2_with fail
      refine HR.out.mono ?_
      rintro e w5 ⟨rfl, ⟨ao5, cap5, hA5⟩, hb5⟩
      have hb5' : Below C w4 w5 := ⟨hb5.os, hb5.tape, hb5.output, hb5.size, hb5.block⟩
      have HB5 : Hid (Below C w w5) := HB4.out.trans hb5'
      obtain ⟨m, hm⟩ : ∃ m, n + 1 + l.len + r.len = m := ⟨_, rfl⟩
      rw [hm] at hA5
      obtain ⟨g5, cp5, hf5, _⟩ := hA5.own.form (by omega)
      simp only [Value.slice.injEq, true_and] at hf5
      obtain ⟨rfl, rfl⟩ := hf5
      have hk5 : (ps ++ [(⟨0, rows, size, -1, -1⟩ : PartV)] ++ l.parts (n + 1) ++ r.parts (n + 1 + l.len))[n]? = some (⟨0, rows, size, -1, -1⟩ : PartV) := by
        have := HPL.out
        rw [List.append_assoc, List.append_assoc, List.getElem?_append_right (by omega), this, Nat.sub_self]; rfl
      have hset5 : (ps ++ [(⟨0, rows, size, -1, -1⟩ : PartV)] ++ l.parts (n + 1) ++ r.parts (n + 1 + l.len)).set n (⟨0, rows, size, kL, kR⟩ : PartV) = ps ++ (Tr.node rows size l r).parts n := by
        have := HPL.out
        rw [List.append_assoc, List.append_assoc, List.set_append_right _ _ (by omega), this, Nat.sub_self, HKL.out, HKR.out]; rfl
      have hlen5 : m = n + (Tr.node rows size l r).len := by simp only [Tr.len]; omega
      obtain ⟨c3, c4, f5, k5, n5, n6, n7⟩ := hA5.cells hk5
      have HBT := Lib.hid (hA5.drew.both hk5 kL kR)
      rw [hset5] at HBT
      have HEA : Hid (∀ W, (Add C lb ab (some ⟨g5, 0, none⟩) cap5 m (ps ++ (Tr.node rows size l r).parts n) W ∧ Below C w5.drew W) → AddPost (.node rows size l r) C lb ab n ps w (.returned (.int .i64 n)) W) := fun W h => ⟨rfl, ⟨_, _, by rw [← hlen5]; exact h.1⟩, HB5.out.trans ⟨h.2.os, h.2.tape, h.2.output, h.2.size, h.2.block⟩⟩
      have y5 := box_cells hA5.hl 0
      simp only [List.getElem?_toArray, List.getElem?_cons_zero, List.getElem?_cons_succ] at y5
      clear a0 z4 hb5 hb5' hA5 HR hk5 hset5 hlen5 HKL HKR
      have i1 : (0 : Int) ≤ (n : Int) := by omega
      have i2 : (n : Int) < (m : Int) := by omega
      clear hm
      have hno : ∀ (W : World) (j : Nat) (u : Value) (x : Value), W.cell? ⟨lb, 0, none⟩ = some x → (W.setCell ⟨g5, j, none⟩ u).cell? ⟨lb, 0, none⟩ = some x := fun W j u x h => (World.cell?_setCell_other _ _ _ _ (fun e => n5 (by injection e with e1; exact e1.symm))).trans h
      have ya : (w5.setCell ⟨g5, n * 5 + 3, none⟩ (.int .i64 kL)).drew.cell? ⟨lb, 0, none⟩ = _ := hno w5 (n * 5 + 3) (.int .i64 kL) _ y5
      have yb : (w5.setCell ⟨g5, n * 5 + 4, none⟩ (.int .i64 kR)).drew.cell? ⟨lb, 0, none⟩ = _ := hno w5 (n * 5 + 4) (.int .i64 kR) _ y5
      have yc : ((w5.setCell ⟨g5, n * 5 + 3, none⟩ (.int .i64 kL)).setCell ⟨g5, n * 5 + 4, none⟩ (.int .i64 kR)).drew.cell? ⟨lb, 0, none⟩ = _ := hno _ (n * 5 + 4) (.int .i64 kR) _ ya
      have yd : ((w5.setCell ⟨g5, n * 5 + 4, none⟩ (.int .i64 kR)).setCell ⟨g5, n * 5 + 3, none⟩ (.int .i64 kL)).drew.cell? ⟨lb, 0, none⟩ = _ := hno _ (n * 5 + 3) (.int .i64 kL) _ yb
      clear hno
      go_wp2_with fail
      go_region_held3 (fun w' => w'.cell? ⟨lb, 0, none⟩ = some (.slice (some ⟨g5, 0, none⟩) m cap5)) (first | with_reducible exact yc | with_reducible exact yd | with_reducible exact ya | with_reducible exact yb | exact y5 | fail) (first | fail)
      all_goals
        clear ya yb yc yd y5
        go_wp2
        go_ret
        first
        | exact HEA.out _ HBT.out.1
        | exact HEA.out _ HBT.out.2
end Go.Proofs.YtaacccooidehlaaDoor
