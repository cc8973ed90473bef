/-
  Region 12 of the law FnWrap: the calls of FirstParser and of FeedScreen, a conversion, two new variables and their stores, in whatever order. Conditions: bounds.
-/
import Derived.Test.YtfpbboldfilhlaaDoorFeedScr
import Derived.Test.YtfpbboldfilhlaaDoorWrapL
import Derived.Test.YtfpbboldfilhlaaDoorRegI
namespace Go.Proofs.YtfpbboldfilhlaaDoor
open Go.ChangeShapes Go.WideShapes Go.ChangeAt Go.RowKit
set_option linter.unusedVariables false
set_option linter.unusedSimpArgs false
set_option maxRecDepth 100000
/-- the box of the first screen and its cells -/
structure WX (n0 : Nat) (w : World) (p : Nat) (tS : TypeId) (cx : Array Value) (aC : Option Addr) (xs : List Value) (w' : World) : Prop where
  below : Below n0 w w'
  np : n0 ≤ p
  box : w'.heap[p]? = some (.cells cx tS (0, 0))
  c : At w' aC xs
section
variable {n0 p : Nat} {tS : TypeId} {w w' w2 : World} {cx : Array Value} {aC : Option Addr} {xs : List Value}
theorem WX.next (h : WX n0 w p tS cx aC xs w') (hb : Below w'.heap.size w' w2) : WX n0 w p tS cx aC xs w2 :=
  ⟨h.below.trans (hb.mono (Nat.le_trans h.np (Nat.le_of_lt (box_lt h.box)))), h.np, box_below h.box hb (box_lt h.box), h.c.below hb (Nat.le_refl _)⟩
theorem WX.drew (h : WX n0 w p tS cx aC xs w') : WX n0 w p tS cx aC xs w'.drew := h.next (Below.refl _ _).drew
theorem WX.alloc (h : WX n0 w p tS cx aC xs w') (o : Obj) : WX n0 w p tS cx aC xs (w'.alloc o) := h.next ((Below.refl _ _).alloc (Nat.le_refl _) o)
theorem WX.S (h : WX n0 w p tS cx aC xs w') : ∀ i, w'.cell? ⟨p, i, none⟩ = cx[i]? := box_cells h.box
end
/-- the screen that FeedScreen gave, in its box -/
def RY (n0 : Nat) (tS : TypeId) (w : World) (T : List UInt8) (W H N n p : Nat) (wx : World) : Prop :=
  ∃ r x g y gC oC capC ao cap, Put T W r x n ∧ g + y = r ∧ y < H ∧ g = r + 1 - H ∧ N ≤ capC ∧ wx.heap[p]? = some (.cells #[.int .i64 (W : Int), .int .i64 (H : Int), .int .i64 (x : Int), .int .i64 (y : Int), .int .i64 0, .int .i64 0, .int .i64 ((H - 1 : Nat) : Int), .int .i64 0, .int .i64 0, .string ⟨#[]⟩, .slice (some ⟨gC, oC, none⟩) N capC, .slice ao g cap] tS (0, 0)) ∧ At wx (some ⟨gC, oC, none⟩) (cellsV (gridR T W H g n)) ∧ At wx ao (strs (histR T W g)) ∧ Below n0 w wx ∧ n0 ≤ p
theorem mkRY {n0 p q : Nat} {tS : TypeId} {w wS W' : World} {T : List UInt8} {W H N n r x g y gC oC capC cap : Nat} {ao : Option Addr} (h1 : Put T W r x n) (h2 : g + y = r) (h3 : y < H) (h4 : g = r + 1 - H) (h5 : N ≤ capC) (hP : PQ p q wS W')
    (bp : W'.heap[p]? = some (.cells #[.int .i64 (W : Int), .int .i64 (H : Int), .int .i64 (x : Int), .int .i64 (y : Int), .int .i64 0, .int .i64 0, .int .i64 ((H - 1 : Nat) : Int), .int .i64 0, .int .i64 0, .string ⟨#[]⟩, .slice (some ⟨gC, oC, none⟩) N capC, .slice ao g cap] tS (0, 0))) (hC : At wS (some ⟨gC, oC, none⟩) (cellsV (gridR T W H g n))) (hH : At wS ao (strs (histR T W g))) (hb : Below n0 w wS) (e1 : gC ≠ p) (e2 : gC ≠ q) (e3 : ∀ k o, ao = some ⟨k, o, none⟩ → 0 < g → k ≠ p ∧ k ≠ q) (hp : n0 ≤ p) (hq : n0 ≤ q) (hw : w.heap.size = n0) : RY n0 tS w T W H N n p W' := by
  refine ⟨r, x, g, y, gC, oC, capC, ao, cap, h1, h2, h3, h4, h5, bp, ?_, ?_, ?_, hp⟩
  · refine hC.same fun k hk ⟨o, ho⟩ _ => ?_
    cases ho
    exact hP.block _ hk e1 e2
  · refine hH.same fun k hk ⟨o, ho⟩ hx => ?_
    have h0 : 0 < g := by
      rcases Nat.eq_zero_or_pos g with h | h
      · subst h; exact absurd rfl hx
      · exact h
    exact hP.block _ hk (e3 k o ho h0).1 (e3 k o ho h0).2
  · subst hw
    exact ⟨hP.os.trans hb.os, hP.tape.trans hb.tape, hP.output.trans hb.output, Nat.le_trans hb.size hP.size, fun k hk => (hP.block k (Nat.lt_of_lt_of_le hk hb.size) (by omega) (by omega)).trans (hb.block k hk)⟩
section
variable {z b i : Nat} {cx : Array Value} {w : World} {v : Value} {o : Obj}
theorem S1_set (hb : z ≠ b) (h : ∀ j, w.cell? ⟨z, j, none⟩ = cx[j]?) : ∀ j, (w.setCell ⟨b, i, none⟩ v).cell? ⟨z, j, none⟩ = cx[j]? := fun j => (World.cell?_setCell_other _ _ _ _ (fun e => by injection e with e1; omega)).trans (h j)
theorem S1_alloc (hb : z < w.heap.size) (h : ∀ j, w.cell? ⟨z, j, none⟩ = cx[j]?) : ∀ j, (w.alloc o).cell? ⟨z, j, none⟩ = cx[j]? := fun j => (World.cell?_alloc_lt w o ⟨z, j, none⟩ hb).trans (h j)
theorem S1_drew (h : ∀ j, w.cell? ⟨z, j, none⟩ = cx[j]?) : ∀ j, w.drew.cell? ⟨z, j, none⟩ = cx[j]? := h
end
theorem at_al {w : World} {o : Obj} {a : Option Addr} {xs : List Value} (h : At w a xs) : At (w.alloc o) a xs := h.below ((Below.refl _ _).alloc (Nat.le_refl _) o) (Nat.le_refl _)
theorem at_dr {w : World} {a : Option Addr} {xs : List Value} (h : At w a xs) : At w.drew a xs := h
theorem at_nx {w w' : World} {a : Option Addr} {xs : List Value} (hb : Below w.heap.size w w') (h : At w a xs) : At w' a xs := h.below hb (Nat.le_refl _)
theorem at_hp {w w' : World} {a : Option Addr} {xs : List Value} (h : At w a xs) (e : w'.heap = w.heap) : At w' a xs := h.same fun k _ _ _ => by rw [e]
theorem at_cv {ob : World → Obj} {xs : List Value} (h : ∀ (wx : World) (B : Nat), B ≤ wx.heap.size → Mine B (wx.drew.alloc (ob wx)) (some ⟨wx.heap.size, 0, none⟩) xs) {w2 wx : World} {k : Nat} (e : k = w2.heap.size) (e2 : w2.heap = wx.heap) : At (w2.alloc (ob wx)) (some ⟨k, 0, none⟩) xs := by
  subst e
  rw [e2]
  refine at_hp (h wx 0 (Nat.zero_le _)).at ?_
  show w2.heap.push _ = wx.heap.push _
  rw [e2]
/-- what FeedScreen gave -/
structure FSR where
  r : Nat
  x : Nat
  g : Nat
  y : Nat
  gC : Nat
  oC : Nat
  capC : Nat
  ao : Option Addr
  capS : Nat
  aP : Option Addr
  dP : Nat
def FSR.arr (R : FSR) (W H N : Nat) : Array Value := #[.int .i64 (W : Int), .int .i64 (H : Int), .int .i64 (R.x : Int), .int .i64 (R.y : Int), .int .i64 0, .int .i64 0, .int .i64 ((H - 1 : Nat) : Int), .int .i64 0, .int .i64 0, .string ⟨#[]⟩, .slice (some ⟨R.gC, R.oC, none⟩) N R.capC, .slice R.ao R.g R.capS]
def FSR.par (R : FSR) : Array Value := #[.int .i64 0, .slice R.aP 0 R.dP, .bool false, .string ⟨#[]⟩, .string ⟨#[]⟩]
def FSR.tup (R : FSR) (W H N : Nat) : Value := .tuple #[.agg (R.arr W H N), .agg R.par, .int .i64 0]
def FSR.good (R : FSR) (T : List UInt8) (W H N n : Nat) : Prop := Put T W R.r R.x n ∧ R.g + R.y = R.r ∧ R.y < H ∧ R.g = R.r + 1 - H ∧ N ≤ R.capC
def FSR.sep (R : FSR) (b : Nat) : Prop := R.gC ≠ b ∧ ∀ k o, R.ao = some ⟨k, o, none⟩ → 0 < R.g → k ≠ b
structure FsAt (R : FSR) (T : List UInt8) (W H n : Nat) (w : World) : Prop where
  c : At w (some ⟨R.gC, R.oC, none⟩) (cellsV (gridR T W H R.g n))
  h : At w R.ao (strs (histR T W R.g))
  gl : R.gC < w.heap.size
  al : ∀ k o, R.ao = some ⟨k, o, none⟩ → 0 < R.g → k < w.heap.size
theorem FsAt.next {R : FSR} {T : List UInt8} {W H n : Nat} {w w2 : World} (h : FsAt R T W H n w) (hb : Below w.heap.size w w2) : FsAt R T W H n w2 :=
  ⟨h.c.below hb (Nat.le_refl _), h.h.below hb (Nat.le_refl _), Nat.lt_of_lt_of_le h.gl hb.size, fun k o e h0 => Nat.lt_of_lt_of_le (h.al k o e h0) hb.size⟩
theorem setCells_ne {b k : Nat} (hk : k ≠ b) : ∀ (vs : List Value) (o : Nat) (w : World), (w.setCells b o vs).heap[k]? = w.heap[k]?
  | [], _, _ => rfl
  | v :: r, o, w => by
    show ((w.setCell ⟨b, o, none⟩ v).setCells b (o + 1) r).heap[k]? = _
    rw [setCells_ne hk r (o + 1) _]
    exact Below.heap_setCell _ _ _ _ hk
theorem setCells_os {b : Nat} : ∀ (vs : List Value) (o : Nat) (w : World), (w.setCells b o vs).os = w.os ∧ (w.setCells b o vs).tape = w.tape ∧ (w.setCells b o vs).output = w.output ∧ (w.setCells b o vs).heap.size = w.heap.size
  | [], _, _ => ⟨rfl, rfl, rfl, rfl⟩
  | v :: r, o, w => by
    show ((w.setCell ⟨b, o, none⟩ v).setCells b (o + 1) r).os = _ ∧ _
    obtain ⟨h1, h2, h3, h4⟩ := setCells_os (b := b) r (o + 1) (w.setCell ⟨b, o, none⟩ v)
    exact ⟨h1, h2, h3, h4.trans (sz_set w _ v)⟩
theorem below_setCells0 {n0 b o : Nat} {w0 w : World} {vs : List Value} (h : Below n0 w0 w) (hb : n0 ≤ b) (hz : w0.heap.size = n0) : Below n0 w0 (w.setCells b o vs) := by
  obtain ⟨h1, h2, h3, h4⟩ := setCells_os (b := b) vs o w
  exact ⟨h1.trans h.os, h2.trans h.tape, h3.trans h.output, by rw [h4]; exact h.size, fun k hk => (setCells_ne (by omega) vs o w).trans (h.block k hk)⟩
theorem FsAt.set {R : FSR} {T : List UInt8} {W H n b o : Nat} {w : World} {vs : List Value} (h : FsAt R T W H n w) (hs : R.sep b) : FsAt R T W H n (w.setCells b o vs) := by
  have hz := (setCells_os (b := b) vs o w).2.2.2
  refine ⟨?_, ?_, by rw [hz]; exact h.gl, fun k o e h0 => by rw [hz]; exact h.al k o e h0⟩
  · refine h.c.same fun k hk ⟨o', ho⟩ _ => ?_
    cases ho
    exact setCells_ne hs.1 vs o w
  · refine h.h.same fun k hk ⟨o', ho⟩ hx => ?_
    have h0 : 0 < R.g := by
      rcases Nat.eq_zero_or_pos R.g with h | h
      · rw [h] at hx; exact absurd rfl hx
      · exact h
    exact setCells_ne (hs.2 k o' ho h0) vs o w
/-- the slots that the region writes -/
def dst12 (k : Nat) : Option Nat := [some 66, some 67, some 68, some 69, some 70, some 65, some 71, some 72, some 73, some 12, some 13, none, none, some 14].getD k none
def wr12 (j : Nat) : Bool := [12, 13, 14, 65, 66, 67, 68, 69, 70, 71, 72, 73].contains j
theorem dst12_facts : ∀ k < 14, ∀ d, dst12 k = some d → d < 147 ∧ wr12 d = true ∧ ∀ k' < 14, dst12 k' = some d → k' = k := by
  have h : ((List.range 14).all fun k => match dst12 k with
    | some d => decide (d < 147) && wr12 d && (List.range 14).all (fun k' => !(dst12 k' == some d) || k' == k)
    | none => true) = true := by decide
  intro k hk d hd
  have h1 := List.all_eq_true.1 h k (List.mem_range.2 hk)
  rw [hd] at h1
  simp only [Bool.and_eq_true, decide_eq_true_eq] at h1
  refine ⟨h1.1.1, h1.1.2, fun k' hk' e => ?_⟩
  have h2 := List.all_eq_true.1 h1.2 k' (List.mem_range.2 hk')
  rw [e] at h2
  simpa using h2
theorem dst12_lt {k d : Nat} (h : dst12 k = some d) : k < 14 := by
  rcases Nat.lt_or_ge k 14 with h1 | h1
  · exact h1
  · have h2 : dst12 k = none := by
      unfold dst12
      rw [List.getD_eq_getElem?_getD, List.getElem?_eq_none (by simpa using h1)]
      rfl
    rw [h2] at h
    cases h
/-- what stands in them, once written -/
def val12 (A : Array Value) (T : ByteArray) (n W H N : Nat) (aP : Addr) (ab : Option Addr) (cb : Nat) (R : FSR) (p q : Nat) : Nat → Value
  | 0 => .agg A
  | 1 => .agg #[.int .i64 0, .slice (some aP) 0 0, .bool false, .string ⟨#[]⟩, .string ⟨#[]⟩]
  | 2 => .string T
  | 3 => .slice ab n cb
  | 4 => R.tup W H N
  | 5 => R.tup W H N
  | 6 => .agg (R.arr W H N)
  | 7 => .agg R.par
  | 8 => .int .i64 0
  | 9 => .pointer (some ⟨p, 0, none⟩)
  | 10 => .pointer (some ⟨q, 0, none⟩)
  | _ => .int .i64 0
/-- the frame -/
structure Fr12 (a0 : Act) (V : Nat → Value) (L : Nat → Bool) (a : Act) : Prop where
  size : a.tmps.size = 147
  defers : a.defers = a0.defers
  fr : ∀ j, wr12 j = false → a.eval (.tmp j) = a0.eval (.tmp j)
  sl : ∀ k d, dst12 k = some d → L k = true → a.eval (.tmp d) = V k
theorem Fr12.put {a0 : Act} {V V' : Nat → Value} {L : Nat → Bool} {a : Act} (h : Fr12 a0 V L a) {i d : Nat} {v : Value} (hD : dst12 i = some d) (hv : v = V' i) (hV : ∀ k, k ≠ i → L k = true → V' k = V k) : Fr12 a0 V' (fun j => L j || j == i) (a.put (some d) v) := by
  have hi := dst12_lt hD
  obtain ⟨h1, h2, h3⟩ := dst12_facts i hi d hD
  refine ⟨by rw [Act.size_put]; exact h.size, by rw [Act.defers_put']; exact h.defers, fun j hj => ?_, fun k d' hk hL => ?_⟩
  · rw [Act.eval_put_ne _ _ _ _ (by rintro rfl; rw [h2] at hj; cases hj)]; exact h.fr j hj
  · by_cases e : k = i
    · subst e
      obtain rfl : d = d' := Option.some.inj (hD.symm.trans hk)
      rw [Act.eval_put_same _ _ _ (by rw [h.size]; exact h1)]
      exact hv
    · have hLk : L k = true := by
        have h4 : (k == i) = false := by simp [e]
        simpa [h4] using hL
      rw [Act.eval_put_ne _ _ _ _ (by rintro rfl; exact e (h3 k (dst12_lt hk) hk)), h.sl k d' hk hLk, hV k e hLk]
theorem Fr12.none {a0 : Act} {V : Nat → Value} {L : Nat → Bool} {a : Act} (h : Fr12 a0 V L a) {i : Nat} {v : Value} (hD : dst12 i = .none) : Fr12 a0 V (fun j => L j || j == i) (a.put .none v) := by
  refine ⟨h.size, h.defers, h.fr, fun k d' hk hL => ?_⟩
  have e : k ≠ i := by rintro rfl; rw [hD] at hk; cases hk
  have h4 : (k == i) = false := by simp [e]
  exact h.sl k d' hk (by simpa [h4] using hL)
/-- what has come up before what -/
structure Cl12 (L : Nat → Bool) : Prop where
  c4 : L 4 = true → L 0 = true ∧ L 1 = true ∧ L 3 = true
  c5 : ∀ k, (k = 5 ∨ k = 6 ∨ k = 7 ∨ k = 8 ∨ k = 11) → L k = true → L 4 = true
  c11 : L 11 = true → L 9 = true
theorem Cl12.step {L : Nat → Bool} (h : Cl12 L) {i : Nat} (h1 : i = 4 → L 0 = true ∧ L 1 = true ∧ L 3 = true) (h2 : (i = 5 ∨ i = 6 ∨ i = 7 ∨ i = 8 ∨ i = 11) → L 4 = true) (h3 : i = 11 → L 9 = true) : Cl12 (fun j => L j || j == i) := by
  have up : ∀ k, L k = true → (L k || k == i) = true := fun k hk => by rw [hk]; rfl
  have dn : ∀ k, (L k || k == i) = true → k = i ∨ L k = true := fun k hk => by
    rcases Bool.or_eq_true_iff.1 hk with h | h
    · exact .inr h
    · exact .inl (by simpa using h)
  refine ⟨fun h4 => ?_, fun k hk hL => ?_, fun h11 => ?_⟩
  · rcases dn 4 h4 with e | e
    · obtain ⟨x, y, z⟩ := h1 e.symm; exact ⟨up _ x, up _ y, up _ z⟩
    · obtain ⟨x, y, z⟩ := h.c4 e; exact ⟨up _ x, up _ y, up _ z⟩
  · rcases dn k hL with e | e
    · subst e; exact up _ (h2 hk)
    · exact up _ (h.c5 k hk e)
  · rcases dn 11 h11 with e | e
    · exact up _ (h3 e.symm)
    · exact up _ (h.c11 e)
/-- the world -/
structure Wo12 (w : World) (z3 : Nat) (A : Array Value) (aC : Option Addr) (xs : List Value) (T : ByteArray) (W H N n : Nat) (l3 l4 l9 l10 l11 : Bool) (w' : World) (ab : Option Addr) (R : FSR) (p q : Nat) : Prop where
  below : Below w.heap.size w w'
  wx : l4 = false → WX w.heap.size w z3 27 A aC xs w'
  t3 : l3 = true → l4 = false → At w' ab (u8s T.data.toList)
  g4 : l4 = true → R.good T.data.toList W H N n ∧ FsAt R T.data.toList W H n w'
  b9 : l9 = true → w.heap.size ≤ p ∧ w'.heap[p]? = some (.cells (if l11 = true then R.arr W H N else #[.int .i64 0, .int .i64 0, .int .i64 0, .int .i64 0, .int .i64 0, .int .i64 0, .int .i64 0, .int .i64 0, .int .i64 0, .string ⟨#[]⟩, .slice none 0 0, .slice none 0 0]) 27 (0, 0))
  b10 : l10 = true → w.heap.size ≤ q ∧ ∃ c0 c1 c2 c3 c4, w'.heap[q]? = some (.cells #[c0, c1, c2, c3, c4] 32 (0, 0))
  d : l9 = true → l10 = true → p ≠ q
  d4 : l4 = true → (l9 = true → R.sep p) ∧ (l10 = true → R.sep q)
section
variable {w : World} {z3 : Nat} {A : Array Value} {aC : Option Addr} {xs : List Value} {T : ByteArray} {W H N n : Nat} {l3 l4 l9 l10 l11 : Bool} {w' w2 : World} {ab : Option Addr} {R : FSR} {p q : Nat}
theorem Wo12.next (h : Wo12 w z3 A aC xs T W H N n l3 l4 l9 l10 l11 w' ab R p q) (hb : Below w'.heap.size w' w2) : Wo12 w z3 A aC xs T W H N n l3 l4 l9 l10 l11 w2 ab R p q :=
  ⟨h.below.trans (hb.mono h.below.size), fun e => (h.wx e).next hb, fun e1 e2 => (h.t3 e1 e2).below hb (Nat.le_refl _), fun e => ⟨(h.g4 e).1, (h.g4 e).2.next hb⟩,
    fun e => ⟨(h.b9 e).1, box_below (h.b9 e).2 hb (box_lt (h.b9 e).2)⟩,
    fun e => ⟨(h.b10 e).1, by obtain ⟨c0, c1, c2, c3, c4, hc⟩ := (h.b10 e).2; exact ⟨c0, c1, c2, c3, c4, box_below hc hb (box_lt hc)⟩⟩, h.d, h.d4⟩
theorem Wo12.s3 (h : Wo12 w z3 A aC xs T W H N n l3 l4 l9 l10 l11 w' ab R p q) {ab' : Option Addr} (ha : At w' ab' (u8s T.data.toList)) : Wo12 w z3 A aC xs T W H N n true l4 l9 l10 l11 w' ab' R p q :=
  ⟨h.below, h.wx, fun _ _ => ha, h.g4, h.b9, h.b10, h.d, h.d4⟩
theorem Wo12.s4 (h : Wo12 w z3 A aC xs T W H N n l3 false l9 l10 false w' ab R p q) (hb : Below w'.heap.size w' w2) {R' : FSR} (hg : R'.good T.data.toList W H N n) (ha : FsAt R' T.data.toList W H n w2) (h1 : w'.heap.size ≤ R'.gC) (h2 : ∀ k o, R'.ao = some ⟨k, o, none⟩ → 0 < R'.g → w'.heap.size ≤ k) :
    Wo12 w z3 A aC xs T W H N n l3 true l9 l10 false w2 ab R' p q := by
  have hn := h.next hb
  have hsep : ∀ b, b < w'.heap.size → R'.sep b := fun b hb => ⟨by omega, fun k o e h0 => by have := h2 k o e h0; omega⟩
  exact ⟨hn.below, (fun e => by cases e), (fun _ e => by cases e), fun _ => ⟨hg, ha⟩, hn.b9, hn.b10, hn.d, fun _ => ⟨fun e => hsep p (box_lt (h.b9 e).2), fun e => hsep q (by obtain ⟨_, _, _, _, _, hc⟩ := (h.b10 e).2; exact box_lt hc)⟩⟩
theorem Wo12.s9 (h : Wo12 w z3 A aC xs T W H N n l3 l4 l9 l10 l11 w' ab R p q) : Wo12 w z3 A aC xs T W H N n l3 l4 true l10 false (w'.alloc (.cells #[.int .i64 0, .int .i64 0, .int .i64 0, .int .i64 0, .int .i64 0, .int .i64 0, .int .i64 0, .int .i64 0, .int .i64 0, .string ⟨#[]⟩, .slice none 0 0, .slice none 0 0] 27)) ab R w'.heap.size q := by
  have hn := h.next ((Below.refl _ _).alloc (Nat.le_refl _) (.cells #[.int .i64 0, .int .i64 0, .int .i64 0, .int .i64 0, .int .i64 0, .int .i64 0, .int .i64 0, .int .i64 0, .int .i64 0, .string ⟨#[]⟩, .slice none 0 0, .slice none 0 0] 27))
  refine ⟨hn.below, hn.wx, hn.t3, hn.g4, fun _ => ⟨h.below.size, box_new w' _⟩, hn.b10, fun _ e => ?_, fun e => ⟨fun _ => ⟨?_, fun k o e1 h0 => ?_⟩, (h.d4 e).2⟩⟩
  · obtain ⟨_, _, _, _, _, hc⟩ := (h.b10 e).2
    have := box_lt hc
    omega
  · have := (h.g4 e).2.gl; omega
  · have := (h.g4 e).2.al k o e1 h0; omega
theorem Wo12.s10 (h : Wo12 w z3 A aC xs T W H N n l3 l4 l9 l10 l11 w' ab R p q) : Wo12 w z3 A aC xs T W H N n l3 l4 l9 true l11 (w'.alloc (.cells #[.int .i64 0, .slice none 0 0, .bool false, .string ⟨#[]⟩, .string ⟨#[]⟩] 32)) ab R p w'.heap.size := by
  have hn := h.next ((Below.refl _ _).alloc (Nat.le_refl _) (.cells #[.int .i64 0, .slice none 0 0, .bool false, .string ⟨#[]⟩, .string ⟨#[]⟩] 32))
  refine ⟨hn.below, hn.wx, hn.t3, hn.g4, hn.b9, fun _ => ⟨h.below.size, _, _, _, _, _, box_new w' _⟩, fun e _ => ?_, fun e => ⟨(h.d4 e).1, fun _ => ⟨?_, fun k o e1 h0 => ?_⟩⟩⟩
  · have := box_lt (h.b9 e).2
    omega
  · have := (h.g4 e).2.gl; omega
  · have := (h.g4 e).2.al k o e1 h0; omega
theorem Wo12.s11 (h : Wo12 w z3 A aC xs T W H N n l3 true true l10 false w' ab R p q) : Wo12 w z3 A aC xs T W H N n l3 true true l10 true (w'.setCells p 0 (R.arr W H N).toList) ab R p q := by
  obtain ⟨hp, hbx⟩ := h.b9 rfl
  refine ⟨below_setCells0 h.below hp rfl, (fun e => by cases e), (fun _ e => by cases e), fun _ => ⟨(h.g4 rfl).1, (h.g4 rfl).2.set ((h.d4 rfl).1 rfl)⟩, fun _ => ⟨hp, ?_⟩, fun e => ⟨(h.b10 e).1, ?_⟩, h.d, h.d4⟩
  · rw [if_pos rfl]
    rw [if_neg (by decide)] at hbx
    exact st12_eq hbx
  · obtain ⟨c0, c1, c2, c3, c4, hc⟩ := (h.b10 e).2
    exact ⟨c0, c1, c2, c3, c4, (setCells_ne (Ne.symm (h.d rfl e)) _ _ _).trans hc⟩
theorem Wo12.s12 (h : Wo12 w z3 A aC xs T W H N n l3 true l9 true l11 w' ab R p q) : Wo12 w z3 A aC xs T W H N n l3 true l9 true l11 (w'.setCells q 0 R.par.toList) ab R p q := by
  obtain ⟨hq, c0, c1, c2, c3, c4, hbx⟩ := h.b10 rfl
  refine ⟨below_setCells0 h.below hq rfl, (fun e => by cases e), (fun _ e => by cases e), fun _ => ⟨(h.g4 rfl).1, (h.g4 rfl).2.set ((h.d4 rfl).2 rfl)⟩, fun e => ⟨(h.b9 e).1, (setCells_ne (h.d e rfl) _ _ _).trans (h.b9 e).2⟩, fun _ => ⟨hq, _, _, _, _, _, st5_eq hbx⟩, h.d, h.d4⟩
end
/-- the operations of the region -/
structure Ops12 (ops : Array Oper) : Prop where
  sz : ops.size = 14
  early : earlyB ops = true
  o0 : OpIs ops 0 (.load 27 (.tmp 7)) (some 66) []
  o1 : OpIs ops 1 (.call { callee := .value (.func 7), args := #[], argTypes := #[] }) (some 67) []
  o2 : OpIs ops 2 (.move (.tmp 10)) (some 68) []
  o3 : OpIs ops 3 (.convert 9 22 (.tmp 68)) (some 69) [2]
  o4 : OpIs ops 4 (.call { callee := .value (.func 6), args := #[.tmp 66, .tmp 67, .tmp 69], argTypes := #[27, 32, 22] }) (some 70) [0, 1, 3]
  o5 : OpIs ops 5 (.move (.tmp 70)) (some 65) [4]
  o6 : OpIs ops 6 (.extract (.tmp 65) 0) (some 71) [5]
  o7 : OpIs ops 7 (.extract (.tmp 65) 1) (some 72) [5]
  o8 : OpIs ops 8 (.extract (.tmp 65) 2) (some 73) [5]
  o9 : OpIs ops 9 (.alloc 27) (some 12) []
  o10 : OpIs ops 10 (.alloc 32) (some 13) []
  o11 : OpIs ops 11 (.store 27 (.tmp 12) (.tmp 71)) .none [9, 6]
  o12 : OpIs ops 12 (.store 32 (.tmp 13) (.tmp 72)) .none [10, 7]
  o13 : OpIs ops 13 (.assign (.tmp 73)) (some 14) [8]
theorem run_allocS (w : World) : (Instr.alloc 27 true (.tuple #[])).run Tryd.prog w = .ok (.pointer (some ⟨w.heap.size, 0, none⟩)) (w.alloc (.cells #[.int .i64 0, .int .i64 0, .int .i64 0, .int .i64 0, .int .i64 0, .int .i64 0, .int .i64 0, .int .i64 0, .int .i64 0, .string ⟨#[]⟩, .slice none 0 0, .slice none 0 0] 27)) := by kernel_rfl
theorem run_allocP (w : World) : (Instr.alloc 32 true (.tuple #[])).run Tryd.prog w = .ok (.pointer (some ⟨w.heap.size, 0, none⟩)) (w.alloc (.cells #[.int .i64 0, .slice none 0 0, .bool false, .string ⟨#[]⟩, .string ⟨#[]⟩] 32)) := by kernel_rfl
theorem run_callFP (o : Oper) (ho : o.op = .call { callee := .value (.func 7), args := #[], argTypes := #[] }) (ρ : Operand → Value) (hf : ρ (.func 7) = .func (.func 7) #[] #[]) (w : World) : (execOp ρ o).run Tryd.prog w = .ok (.enter 7 #[]) w := by
  unfold execOp
  simp only [ho]
  unfold resolve
  simp only [hf]
  kernel_rfl
theorem run_callFS (o : Oper) (ho : o.op = .call { callee := .value (.func 6), args := #[.tmp 66, .tmp 67, .tmp 69], argTypes := #[27, 32, 22] }) (ρ : Operand → Value) (hf : ρ (.func 6) = .func (.func 6) #[] #[]) {x y z : Value} (hx : ρ (.tmp 66) = x) (hy : ρ (.tmp 67) = y) (hz : ρ (.tmp 69) = z) (w : World) : (execOp ρ o).run Tryd.prog w = .ok (.enter 6 #[x, y, z]) w := by
  subst hx hy hz
  unfold execOp
  simp only [ho]
  unfold resolve
  simp only [hf]
  kernel_rfl
theorem Wo12.cast {w : World} {z3 : Nat} {A : Array Value} {aC : Option Addr} {xs : List Value} {T : ByteArray} {W H N n : Nat} {l3 l4 l9 l10 l11 m3 m4 m9 m10 m11 : Bool} {w' : World} {ab : Option Addr} {R : FSR} {p q : Nat} (h : Wo12 w z3 A aC xs T W H N n l3 l4 l9 l10 l11 w' ab R p q) (e3 : m3 = l3) (e4 : m4 = l4) (e9 : m9 = l9) (e10 : m10 = l10) (e11 : m11 = l11) : Wo12 w z3 A aC xs T W H N n m3 m4 m9 m10 m11 w' ab R p q := by
  subst e3 e4 e9 e10 e11
  exact h
theorem there_box {w : World} {b n : Nat} {cs : Array Value} {t : TypeId} (h : w.heap[b]? = some (.cells cs t (0, 0))) (hn : cs.size = n) : w.there b 0 n := by
  intro j hj
  rw [Nat.zero_add, box_cells h, box_free h]
  exact ⟨by rw [Array.getElem?_eq_getElem (by omega)]; rfl, rfl⟩
section
variable {A : Array Value} {T : ByteArray} {n W H N : Nat} {aP aP' : Addr} {ab ab' : Option Addr} {cb cb' : Nat} {R R' : FSR} {p p' q q' : Nat}
theorem val12_1 : ∀ k, k ≠ 1 → val12 A T n W H N aP' ab cb R p q k = val12 A T n W H N aP ab cb R p q k
  | 0, _ | 2, _ | 3, _ | 4, _ | 5, _ | 6, _ | 7, _ | 8, _ | 9, _ | 10, _ => rfl
  | 1, h => absurd rfl h
  | _ + 11, _ => rfl
theorem val12_3 : ∀ k, k ≠ 3 → val12 A T n W H N aP ab' cb' R p q k = val12 A T n W H N aP ab cb R p q k
  | 0, _ | 1, _ | 2, _ | 4, _ | 5, _ | 6, _ | 7, _ | 8, _ | 9, _ | 10, _ => rfl
  | 3, h => absurd rfl h
  | _ + 11, _ => rfl
theorem val12_4 : ∀ k, ¬ (k = 4 ∨ k = 5 ∨ k = 6 ∨ k = 7 ∨ k = 8) → val12 A T n W H N aP ab cb R' p q k = val12 A T n W H N aP ab cb R p q k
  | 0, _ | 1, _ | 2, _ | 3, _ | 9, _ | 10, _ => rfl
  | 4, h | 5, h | 6, h | 7, h | 8, h => absurd (by simp) h
  | _ + 11, _ => rfl
theorem val12_9 : ∀ k, k ≠ 9 → val12 A T n W H N aP ab cb R p' q k = val12 A T n W H N aP ab cb R p q k
  | 0, _ | 1, _ | 2, _ | 3, _ | 4, _ | 5, _ | 6, _ | 7, _ | 8, _ | 10, _ => rfl
  | 9, h => absurd rfl h
  | _ + 11, _ => rfl
theorem val12_10 : ∀ k, k ≠ 10 → val12 A T n W H N aP ab cb R p q' k = val12 A T n W H N aP ab cb R p q k
  | 0, _ | 1, _ | 2, _ | 3, _ | 4, _ | 5, _ | 6, _ | 7, _ | 8, _ | 9, _ => rfl
  | 10, h => absurd rfl h
  | _ + 11, _ => rfl
end
set_option maxHeartbeats 2000000 in
theorem region12_any {id : Nat} {ops : Array Oper} {a0 : Act} {Q : Exit → Act → World → Prop} {w wr : World} {z3 W H N n bC oC c d : Nat} {aH : Option Addr} (T : ByteArray) (hops : Ops12 ops)
    (hz0 : a0.tmps.size = 147) (h7 : a0.eval (.tmp 7) = .pointer (some ⟨z3, 0, none⟩)) (h10 : a0.eval (.tmp 10) = .string T)
    (hX : WX w.heap.size w z3 27 #[.int .i64 (W : Int), .int .i64 (H : Int), .int .i64 0, .int .i64 0, .int .i64 0, .int .i64 0, .int .i64 ((H - 1 : Nat) : Int), .int .i64 0, .int .i64 0, .string ⟨#[]⟩, .slice (some ⟨bC, oC, none⟩) N c, .slice aH 0 d] (some ⟨bC, oC, none⟩) (cellsV (gridR T.data.toList W H 0 0)) wr)
    (hok : okT T.data.toList) (w0 : 2 ≤ W) (w1 : W ≤ 24) (h0 : 2 ≤ H) (h1 : H ≤ 10) (hn : T.data.toList.length ≤ W * (H + 3)) (hm : T.size = n) (hWH : W * H = N)
    (hQ : ∀ (a : Act) (w' : World) (p q : Nat), a.tmps.size = 147 → a.defers = a0.defers → (∀ j, wr12 j = false → a.eval (.tmp j) = a0.eval (.tmp j)) → a.eval (.tmp 12) = .pointer (some ⟨p, 0, none⟩) → a.eval (.tmp 13) = .pointer (some ⟨q, 0, none⟩) → a.eval (.tmp 14) = .int .i64 0 → RY w.heap.size 27 w T.data.toList W H N n p w' → Q .normal a w') :
    (Code.region id ops true).wp Tryd.prog Q a0 wr := by
  obtain ⟨cp, ob, hcv, hmv⟩ := bytes_conv (P := Tryd.prog) 9 22 5 T n hm Tryd.underlying9 Tryd.underlying22 Tryd.underlying5
  refine wp_region_inv (Checked.mixed Tryd.checked) hops.early (fun L a w' => ∃ aP ab cb R p q, Fr12 a0 (val12 #[.int .i64 (W : Int), .int .i64 (H : Int), .int .i64 0, .int .i64 0, .int .i64 0, .int .i64 0, .int .i64 ((H - 1 : Nat) : Int), .int .i64 0, .int .i64 0, .string ⟨#[]⟩, .slice (some ⟨bC, oC, none⟩) N c, .slice aH 0 d] T n W H N aP ab cb R p q) L a ∧ Cl12 L ∧ Wo12 w z3 #[.int .i64 (W : Int), .int .i64 (H : Int), .int .i64 0, .int .i64 0, .int .i64 0, .int .i64 0, .int .i64 ((H - 1 : Nat) : Int), .int .i64 0, .int .i64 0, .string ⟨#[]⟩, .slice (some ⟨bC, oC, none⟩) N c, .slice aH 0 d] (some ⟨bC, oC, none⟩) (cellsV (gridR T.data.toList W H 0 0)) T W H N n (L 3) (L 4) (L 9) (L 10) (L 11) w' ab R p q) ?_ ?_ ?_
  · refine ⟨⟨0, 0, none⟩, none, 0, ⟨0, 0, 0, 0, 0, 0, 0, none, 0, none, 0⟩, 0, 0, ⟨hz0, rfl, fun _ _ => rfl, (fun _ _ _ e => by cases e)⟩, ⟨(fun e => by cases e), (fun _ _ e => by cases e), (fun e => by cases e)⟩, ?_⟩
    exact ⟨hX.drew.below, fun _ => hX.drew, (fun e => by cases e), (fun e => by cases e), (fun e => by cases e), (fun e => by cases e), (fun e => by cases e), (fun e => by cases e)⟩
  · rintro L a w' i o ⟨aP, ab, cb, R, p, q, hF, hC, hW⟩ ho hL hd
    have hi : i < 14 := by have := (Array.getElem?_eq_some_iff.1 ho).1; rw [hops.sz] at this; exact this
    have eL : ∀ k, (k == i) = false → (L k || k == i) = L k := fun k hk => by rw [hk, Bool.or_false]
    have eT : (L i || i == i) = true := by simp
    have n4 : (L 0 = false ∨ L 1 = false ∨ L 3 = false) → L 4 = false := by
      intro h
      cases h4 : L 4 with
      | false => rfl
      | true =>
        obtain ⟨x, y, z⟩ := hC.c4 h4
        rw [x, y, z] at h
        simp at h
    obtain rfl | rfl | rfl | rfl | rfl | rfl | rfl | rfl | rfl | rfl | rfl | rfl | rfl | rfl : i = 0 ∨ i = 1 ∨ i = 2 ∨ i = 3 ∨ i = 4 ∨ i = 5 ∨ i = 6 ∨ i = 7 ∨ i = 8 ∨ i = 9 ∨ i = 10 ∨ i = 11 ∨ i = 12 ∨ i = 13 := by omega
    · obtain ⟨g1, g2, g3, g4⟩ := hops.o0.get ho hd
      refine ⟨g3, ?_⟩
      have hx := hW.wx (n4 (.inl hL))
      refine wp_load_mid 27 (.tmp 7) g1 z3 0 ((hF.fr 7 rfl).trans h7) (#[.int .i64 (W : Int), .int .i64 (H : Int), .int .i64 0, .int .i64 0, .int .i64 0, .int .i64 0, .int .i64 ((H - 1 : Nat) : Int), .int .i64 0, .int .i64 0, .string ⟨#[]⟩, .slice (some ⟨bC, oC, none⟩) N c, .slice aH 0 d] : Array Value).toList _ (fun j v hj => ?_) Tryd.underlying27 rfl (by kernel_rfl) ?_
      · rw [Nat.zero_add, box_cells hx.box, ← hj]; simp
      · rw [g2]
        exact ⟨aP, ab, cb, R, p, q, hF.put (i := 0) rfl rfl (fun _ _ _ => rfl), hC.step (by omega) (by omega) (by omega), hW.cast (eL 3 rfl) (eL 4 rfl) (eL 9 rfl) (eL 10 rfl) (eL 11 rfl)⟩
    · obtain ⟨g1, g2, g3, g4⟩ := hops.o1.get ho hd
      refine ⟨g3, wp_enter (run_callFP o g1 a.eval rfl w') ((firstParser_any w').mono ?_)⟩
      rintro e w2 ⟨aP', rfl, hb⟩
      refine ⟨_, rfl, ?_⟩
      rw [g2]
      exact ⟨aP', ab, cb, R, p, q, hF.put (i := 1) rfl rfl (fun k hk _ => val12_1 k hk), hC.step (by omega) (by omega) (by omega), (hW.next hb).cast (eL 3 rfl) (eL 4 rfl) (eL 9 rfl) (eL 10 rfl) (eL 11 rfl)⟩
    · obtain ⟨g1, g2, g3, g4⟩ := hops.o2.get ho hd
      refine ⟨g3, wp_move g1 ((hF.fr 10 rfl).trans h10) ?_⟩
      rw [g2]
      exact ⟨aP, ab, cb, R, p, q, hF.put (i := 2) rfl rfl (fun _ _ _ => rfl), hC.step (by omega) (by omega) (by omega), hW.cast (eL 3 rfl) (eL 4 rfl) (eL 9 rfl) (eL 10 rfl) (eL 11 rfl)⟩
    · obtain ⟨g1, g2, g3, g4⟩ := hops.o3.get ho hd
      refine ⟨g3, wp_convert g1 (hF.sl 2 68 rfl (g4 2 (by simp))) (hcv w') ?_⟩
      rw [g2]
      exact ⟨aP, some ⟨w'.heap.size, 0, none⟩, cp w', R, p, q, hF.put (i := 3) rfl rfl (fun k hk _ => val12_3 k hk), hC.step (by omega) (by omega) (by omega), ((hW.next ((Below.refl _ _).drew.alloc (Nat.le_refl _) _)).s3 (hmv.out w' 0 (Nat.zero_le _)).at).cast eT (eL 4 rfl) (eL 9 rfl) (eL 10 rfl) (eL 11 rfl)⟩
    · obtain ⟨g1, g2, g3, g4⟩ := hops.o4.get ho hd
      have l11 : L 11 = false := by
        cases h : L 11 with
        | false => rfl
        | true => rw [hC.c5 11 (by simp) h] at hL; cases hL
      have l3 := g4 3 (by simp)
      refine ⟨g3, wp_enter (run_callFS o g1 a.eval rfl (hF.sl 0 66 rfl (g4 0 (by simp))) (hF.sl 1 67 rfl (g4 1 (by simp))) (hF.sl 3 69 rfl l3) w') ((feedScreen_any (W := W) (H := H) (n := N) (m := n) T w' hok w0 w1 h0 h1 hn hm hWH (hW.wx hL).c (hW.t3 l3 hL)).mono ?_)⟩
      rintro e w2 ⟨r, x, g, y, gC, oC', capC, ao, capS, aP2, dP2, i1, i2, i3, i4, rfl, ⟨j1, j2, j3, j4⟩, hAC, hAH, hb⟩
      refine ⟨_, rfl, ?_⟩
      rw [g2]
      rw [hL, l11] at hW
      refine ⟨aP, ab, cb, ⟨r, x, g, y, gC, oC', capC, ao, capS, aP2, dP2⟩, p, q, hF.put (i := 4) rfl rfl (fun k hk hLk => val12_4 k (fun hk2 => ?_)), hC.step (fun _ => ⟨g4 0 (by simp), g4 1 (by simp), l3⟩) (by omega) (by omega), ?_⟩
      · have := hC.c5 k (by omega) hLk
        rw [hL] at this
        cases this
      · exact (hW.s4 (R' := ⟨r, x, g, y, gC, oC', capC, ao, capS, aP2, dP2⟩) hb ⟨i1, i2, i3, i4, j1⟩ ⟨hAC, hAH, j3, fun k o e h0 => (j4 k o e h0).2⟩ j2 (fun k o e h0 => (j4 k o e h0).1)).cast (eL 3 rfl) eT (eL 9 rfl) (eL 10 rfl) ((eL 11 rfl).trans l11)
    · obtain ⟨g1, g2, g3, g4⟩ := hops.o5.get ho hd
      refine ⟨g3, wp_move g1 (hF.sl 4 70 rfl (g4 4 (by simp))) ?_⟩
      rw [g2]
      exact ⟨aP, ab, cb, R, p, q, hF.put (i := 5) rfl rfl (fun _ _ _ => rfl), hC.step (by omega) (fun _ => g4 4 (by simp)) (by omega), hW.cast (eL 3 rfl) (eL 4 rfl) (eL 9 rfl) (eL 10 rfl) (eL 11 rfl)⟩
    · obtain ⟨g1, g2, g3, g4⟩ := hops.o6.get ho hd
      refine ⟨g3, wp_extract (vs := #[.agg (R.arr W H N), .agg R.par, .int .i64 0]) g1 (hF.sl 5 65 rfl (g4 5 (by simp))) rfl ?_⟩
      rw [g2]
      exact ⟨aP, ab, cb, R, p, q, hF.put (i := 6) rfl rfl (fun _ _ _ => rfl), hC.step (by omega) (fun _ => hC.c5 5 (by simp) (g4 5 (by simp))) (by omega), hW.cast (eL 3 rfl) (eL 4 rfl) (eL 9 rfl) (eL 10 rfl) (eL 11 rfl)⟩
    · obtain ⟨g1, g2, g3, g4⟩ := hops.o7.get ho hd
      refine ⟨g3, wp_extract (vs := #[.agg (R.arr W H N), .agg R.par, .int .i64 0]) g1 (hF.sl 5 65 rfl (g4 5 (by simp))) rfl ?_⟩
      rw [g2]
      exact ⟨aP, ab, cb, R, p, q, hF.put (i := 7) rfl rfl (fun _ _ _ => rfl), hC.step (by omega) (fun _ => hC.c5 5 (by simp) (g4 5 (by simp))) (by omega), hW.cast (eL 3 rfl) (eL 4 rfl) (eL 9 rfl) (eL 10 rfl) (eL 11 rfl)⟩
    · obtain ⟨g1, g2, g3, g4⟩ := hops.o8.get ho hd
      refine ⟨g3, wp_extract (vs := #[.agg (R.arr W H N), .agg R.par, .int .i64 0]) g1 (hF.sl 5 65 rfl (g4 5 (by simp))) rfl ?_⟩
      rw [g2]
      exact ⟨aP, ab, cb, R, p, q, hF.put (i := 8) rfl rfl (fun _ _ _ => rfl), hC.step (by omega) (fun _ => hC.c5 5 (by simp) (g4 5 (by simp))) (by omega), hW.cast (eL 3 rfl) (eL 4 rfl) (eL 9 rfl) (eL 10 rfl) (eL 11 rfl)⟩
    · obtain ⟨g1, g2, g3, g4⟩ := hops.o9.get ho hd
      have l11 : L 11 = false := by
        cases h : L 11 with
        | false => rfl
        | true => rw [hC.c11 h] at hL; cases hL
      refine ⟨g3, wp_alloc g1 (run_allocS w') ?_⟩
      rw [g2]
      exact ⟨aP, ab, cb, R, w'.heap.size, q, hF.put (i := 9) rfl rfl (fun k hk _ => val12_9 k hk), hC.step (by omega) (by omega) (by omega), hW.s9.cast (eL 3 rfl) (eL 4 rfl) eT (eL 10 rfl) ((eL 11 rfl).trans l11)⟩
    · obtain ⟨g1, g2, g3, g4⟩ := hops.o10.get ho hd
      refine ⟨g3, wp_alloc g1 (run_allocP w') ?_⟩
      rw [g2]
      exact ⟨aP, ab, cb, R, p, w'.heap.size, hF.put (i := 10) rfl rfl (fun k hk _ => val12_10 k hk), hC.step (by omega) (by omega) (by omega), hW.s10.cast (eL 3 rfl) (eL 4 rfl) (eL 9 rfl) eT (eL 11 rfl)⟩
    · obtain ⟨g1, g2, g3, g4⟩ := hops.o11.get ho hd
      have l9 := g4 9 (by simp)
      have l6 := g4 6 (by simp)
      have l4 := hC.c5 6 (by simp) l6
      have l9' := (eL 9 rfl).trans l9
      have l4' := (eL 4 rfl).trans l4
      rw [l9, l4, hL] at hW
      refine ⟨g3, wp_store_mid 27 (.tmp 12) (.tmp 71) g1 p 0 (R.arr W H N) (hF.sl 9 12 rfl l9) (hF.sl 6 71 rfl l6) (there_box (hW.b9 rfl).2 rfl) (by kernel_rfl) (by first | kernel_rfl | simp [FSR.arr, Value.oneCell']) ?_⟩
      rw [g2]
      refine ⟨aP, ab, cb, R, p, q, hF.none (i := 11) rfl, hC.step (by omega) (fun _ => l4) (fun _ => l9), ?_⟩
      cases h3 : L 3 with
      | false => have := (hC.c4 l4).2.2; rw [h3] at this; cases this
      | true =>
        rw [h3] at hW
        exact hW.s11.cast ((eL 3 rfl).trans h3) l4' l9' (eL 10 rfl) eT
    · obtain ⟨g1, g2, g3, g4⟩ := hops.o12.get ho hd
      have l10 := g4 10 (by simp)
      have l7 := g4 7 (by simp)
      have l4 := hC.c5 7 (by simp) l7
      have l10' := (eL 10 rfl).trans l10
      have l4' := (eL 4 rfl).trans l4
      rw [l10, l4] at hW
      obtain ⟨hq0, c0, c1, c2, c3, c4, hbq⟩ := hW.b10 rfl
      refine ⟨g3, wp_store_mid 32 (.tmp 13) (.tmp 72) g1 q 0 R.par (hF.sl 10 13 rfl l10) (hF.sl 7 72 rfl l7) (there_box hbq rfl) (by kernel_rfl) (by first | kernel_rfl | simp [FSR.par, Value.oneCell']) ?_⟩
      rw [g2]
      exact ⟨aP, ab, cb, R, p, q, hF.none (i := 12) rfl, hC.step (by omega) (by omega) (by omega), hW.s12.cast (eL 3 rfl) l4' (eL 9 rfl) l10' (eL 11 rfl)⟩
    · obtain ⟨g1, g2, g3, g4⟩ := hops.o13.get ho hd
      refine ⟨g3, wp_assign g1 (hF.sl 8 73 rfl (g4 8 (by simp))) ?_⟩
      rw [g2]
      exact ⟨aP, ab, cb, R, p, q, hF.put (i := 13) rfl rfl (fun _ _ _ => rfl), hC.step (by omega) (by omega) (by omega), hW.cast (eL 3 rfl) (eL 4 rfl) (eL 9 rfl) (eL 10 rfl) (eL 11 rfl)⟩
  · rintro L a w' ⟨aP, ab, cb, R, p, q, hF, hC, hW⟩ hall
    have l : ∀ k, k < 14 → L k = true := fun k hk => hall k (by rw [hops.sz]; exact hk)
    rw [l 3 (by omega), l 4 (by omega), l 9 (by omega), l 10 (by omega), l 11 (by omega)] at hW
    obtain ⟨⟨y1, y2, y3, y4, y5⟩, yA⟩ := hW.g4 rfl
    obtain ⟨hp, hbx⟩ := hW.b9 rfl
    rw [if_pos rfl] at hbx
    exact hQ a w' p q hF.size hF.defers hF.fr (hF.sl 9 12 rfl (l 9 (by omega))) (hF.sl 10 13 rfl (l 10 (by omega))) (hF.sl 13 14 rfl (l 13 (by omega))) ⟨R.r, R.x, R.g, R.y, R.gC, R.oC, R.capC, R.ao, R.capS, y1, y2, y3, y4, y5, hbx, yA.c, yA.h, hW.below, hp⟩
/-- a frame out of its slots -/
theorem act_of {a a0 : Act} (hz : a.tmps.size = 147) (hz0 : a0.tmps.size = 147) (hd : a.defers = a0.defers) (hfr : ∀ j, wr12 j = false → a.eval (.tmp j) = a0.eval (.tmp j)) :
    a = ((((((((((((a0.put (some 12) (a.eval (.tmp 12))).put (some 13) (a.eval (.tmp 13))).put (some 14) (a.eval (.tmp 14))).put (some 65) (a.eval (.tmp 65))).put (some 66) (a.eval (.tmp 66))).put (some 67) (a.eval (.tmp 67))).put (some 68) (a.eval (.tmp 68))).put (some 69) (a.eval (.tmp 69))).put (some 70) (a.eval (.tmp 70))).put (some 71) (a.eval (.tmp 71))).put (some 72) (a.eval (.tmp 72))).put (some 73) (a.eval (.tmp 73))) := by
  obtain ⟨B, hB⟩ : ∃ B, ((((((((((((a0.put (some 12) (a.eval (.tmp 12))).put (some 13) (a.eval (.tmp 13))).put (some 14) (a.eval (.tmp 14))).put (some 65) (a.eval (.tmp 65))).put (some 66) (a.eval (.tmp 66))).put (some 67) (a.eval (.tmp 67))).put (some 68) (a.eval (.tmp 68))).put (some 69) (a.eval (.tmp 69))).put (some 70) (a.eval (.tmp 70))).put (some 71) (a.eval (.tmp 71))).put (some 72) (a.eval (.tmp 72))).put (some 73) (a.eval (.tmp 73))) = B := ⟨_, rfl⟩
  have hBz : B.tmps.size = 147 := by rw [← hB]; simp only [Act.size_put]; exact hz0
  have hBd : B.defers = a0.defers := by rw [← hB]; simp only [Act.defers_put']
  have hBe : ∀ j : Nat, a.eval (.tmp j) = B.eval (.tmp j) := by
    intro j
    have hs : ∀ (x : Act) (d : Nat) (v : Value), x.tmps.size = 147 → d < 147 → (x.put (some d) v).eval (.tmp j) = if d = j then v else x.eval (.tmp j) := by
      intro x d v hx hdl
      by_cases e : d = j
      · subst e; rw [if_pos rfl]; exact Act.eval_put_same _ _ _ (by omega)
      · rw [if_neg e]; exact Act.eval_put_ne _ _ _ _ e
    rw [← hB]
    rw [hs _ _ _ (by (try simp only [Act.size_put]); exact hz0) (by omega), hs _ _ _ (by (try simp only [Act.size_put]); exact hz0) (by omega), hs _ _ _ (by (try simp only [Act.size_put]); exact hz0) (by omega), hs _ _ _ (by (try simp only [Act.size_put]); exact hz0) (by omega), hs _ _ _ (by (try simp only [Act.size_put]); exact hz0) (by omega), hs _ _ _ (by (try simp only [Act.size_put]); exact hz0) (by omega), hs _ _ _ (by (try simp only [Act.size_put]); exact hz0) (by omega), hs _ _ _ (by (try simp only [Act.size_put]); exact hz0) (by omega), hs _ _ _ (by (try simp only [Act.size_put]); exact hz0) (by omega), hs _ _ _ (by (try simp only [Act.size_put]); exact hz0) (by omega), hs _ _ _ (by (try simp only [Act.size_put]); exact hz0) (by omega), hs _ _ _ (by (try simp only [Act.size_put]); exact hz0) (by omega)]
    by_cases e73 : 73 = j
    · subst e73; rw [if_pos rfl]
    rw [if_neg e73]
    by_cases e72 : 72 = j
    · subst e72; rw [if_pos rfl]
    rw [if_neg e72]
    by_cases e71 : 71 = j
    · subst e71; rw [if_pos rfl]
    rw [if_neg e71]
    by_cases e70 : 70 = j
    · subst e70; rw [if_pos rfl]
    rw [if_neg e70]
    by_cases e69 : 69 = j
    · subst e69; rw [if_pos rfl]
    rw [if_neg e69]
    by_cases e68 : 68 = j
    · subst e68; rw [if_pos rfl]
    rw [if_neg e68]
    by_cases e67 : 67 = j
    · subst e67; rw [if_pos rfl]
    rw [if_neg e67]
    by_cases e66 : 66 = j
    · subst e66; rw [if_pos rfl]
    rw [if_neg e66]
    by_cases e65 : 65 = j
    · subst e65; rw [if_pos rfl]
    rw [if_neg e65]
    by_cases e14 : 14 = j
    · subst e14; rw [if_pos rfl]
    rw [if_neg e14]
    by_cases e13 : 13 = j
    · subst e13; rw [if_pos rfl]
    rw [if_neg e13]
    by_cases e12 : 12 = j
    · subst e12; rw [if_pos rfl]
    rw [if_neg e12]
    refine hfr j ?_
    rw [Bool.eq_false_iff]
    intro hc
    have hm : j ∈ [12, 13, 14, 65, 66, 67, 68, 69, 70, 71, 72, 73] := by simpa [wr12] using hc
    simp only [List.mem_cons, List.not_mem_nil, or_false] at hm
    omega
  rw [hB]
  obtain ⟨at1, ad⟩ := a
  obtain ⟨bt1, bd⟩ := B
  have e1 : ad = bd := hd.trans hBd.symm
  have e2 : at1 = bt1 := by
    refine Array.ext (hz.trans hBz.symm) fun j h1 h2 => ?_
    have := hBe j
    simp only [Act.eval, Array.getD, h1, h2, dif_pos] at this
    exact this
  rw [e1, e2]
end Go.Proofs.YtfpbboldfilhlaaDoor
