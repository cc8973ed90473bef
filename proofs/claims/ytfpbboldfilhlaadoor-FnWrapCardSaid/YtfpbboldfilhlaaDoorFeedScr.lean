/-
  Contract of FeedScreen of the given program, at a blank screen, the first parser and a text of letters. Conditions: bounds.
-/
import Derived.Test.YtfpbboldfilhlaaDoorFeed
import Derived.Test.YtfpbboldfilhlaaDoorParIs
import Derived.Test.YtfpbboldfilhlaaDoorScrOK2
import Derived.Test.YtfpbboldfilhlaaDoorLong
import Derived.Deep.RegionHeld3
namespace Go.Proofs.YtfpbboldfilhlaaDoor
open Go.ChangeShapes Go.WideShapes Go.ChangeAt Go.RowKit
set_option linter.unusedVariables false
set_option linter.unusedSimpArgs false
set_option maxRecDepth 100000
/-- the boxes of FeedScreen, the cells and the text that came in -/
structure FB (n0 : Nat) (tS tP : TypeId) (w : World) (cx cp cz cq : Array Value) (aC : Option Addr) (xs : List Value) (ab : Option Addr) (bs : List Value) (w' : World) : Prop where
  below : Below n0 w w'
  b3 : w'.heap[n0]? = some (.cells cx tS (0, 0))
  b4 : w'.heap[n0 + 1]? = some (.cells cp tP (0, 0))
  b6 : w'.heap[n0 + 2]? = some (.cells cz tS (0, 0))
  b7 : w'.heap[n0 + 3]? = some (.cells cq tP (0, 0))
  c : At w' aC xs
  t : At w' ab bs
section
variable {n0 : Nat} {tS tP : TypeId} {w : World} {cx cp cz cq : Array Value} {aC : Option Addr} {xs : List Value} {ab : Option Addr} {bs : List Value} {w' w2 : World}
theorem FB.next (h : FB n0 tS tP w cx cp cz cq aC xs ab bs w') (hb : Below w'.heap.size w' w2) : FB n0 tS tP w cx cp cz cq aC xs ab bs w2 :=
  have h1 := box_lt h.b7
  ⟨h.below.trans (hb.mono (by omega)), box_below h.b3 hb (by omega), box_below h.b4 hb (by omega), box_below h.b6 hb (by omega), box_below h.b7 hb h1, h.c.below hb (Nat.le_refl _), h.t.below hb (Nat.le_refl _)⟩
theorem FB.S (h : FB n0 tS tP w cx cp cz cq aC xs ab bs w') : (∀ i, w'.cell? ⟨n0, i, none⟩ = cx[i]?) ∧ (∀ i, w'.cell? ⟨n0 + 1, i, none⟩ = cp[i]?) := ⟨box_cells h.b3, box_cells h.b4⟩
theorem FB.drew (h : FB n0 tS tP w cx cp cz cq aC xs ab bs w') : FB n0 tS tP w cx cp cz cq aC xs ab bs w'.drew := h.next (Below.refl _ _).drew
theorem FB.alloc (h : FB n0 tS tP w cx cp cz cq aC xs ab bs w') (o : Obj) : FB n0 tS tP w cx cp cz cq aC xs ab bs (w'.alloc o) := h.next ((Below.refl _ _).alloc (Nat.le_refl _) o)
end
theorem S_set {n0 : Nat} {cx cp : Array Value} {w : World} {b i : Nat} {v : Value} (hb : n0 + 1 < b) (h : (∀ i, w.cell? ⟨n0, i, none⟩ = cx[i]?) ∧ (∀ i, w.cell? ⟨n0 + 1, i, none⟩ = cp[i]?)) : (∀ j, (w.setCell ⟨b, i, none⟩ v).cell? ⟨n0, j, none⟩ = cx[j]?) ∧ (∀ j, (w.setCell ⟨b, i, none⟩ v).cell? ⟨n0 + 1, j, none⟩ = cp[j]?) :=
  ⟨fun j => (World.cell?_setCell_other _ _ _ _ (fun e => by injection e with e1; omega)).trans (h.1 j), fun j => (World.cell?_setCell_other _ _ _ _ (fun e => by injection e with e1; omega)).trans (h.2 j)⟩
theorem S_alloc {n0 : Nat} {cx cp : Array Value} {w : World} {o : Obj} (hb : n0 + 1 < w.heap.size) (h : (∀ i, w.cell? ⟨n0, i, none⟩ = cx[i]?) ∧ (∀ i, w.cell? ⟨n0 + 1, i, none⟩ = cp[i]?)) : (∀ j, (w.alloc o).cell? ⟨n0, j, none⟩ = cx[j]?) ∧ (∀ j, (w.alloc o).cell? ⟨n0 + 1, j, none⟩ = cp[j]?) :=
  ⟨fun j => (World.cell?_alloc_lt w o ⟨n0, j, none⟩ (by show n0 < _; omega)).trans (h.1 j), fun j => (World.cell?_alloc_lt w o ⟨n0 + 1, j, none⟩ hb).trans (h.2 j)⟩
theorem CE.facts {n0 B : Nat} {tC tS : TypeId} {w : World} {cs : List (Int × Int)} {g cap : Nat} {a : Option Addr} {d : Nat} {w' : World} (h : CE n0 B tC tS w cs g cap a d w') {m : Nat} (hm : m ≤ B) :
    ∃ B0, m ≤ B0 ∧ B0 ≤ g ∧ g < w'.heap.size ∧ w'.ownsRow B0 tC 2 (.slice (some ⟨g, 0, none⟩) cs.length cap) cs.length (cellsV cs) ∧ w'.ownsRow B0 tS 1 (.slice a 0 d) 0 [] ∧ (∀ k o, a = some ⟨k, o, none⟩ → B0 ≤ k ∧ k < w'.heap.size) :=
  ⟨B, hm, (h.oc.lt g rfl).1, (h.oc.lt g rfl).2, h.oc, h.os, fun k o e => by subst e; exact h.os.lt k rfl⟩
theorem lay_cells {C : Nat} {W W' : World} {G : Prop} (hb : Below C W W') (hC : C ≤ W.heap.size) (k : Nat) (h : k < C) (K : (∀ i, W'.cell? ⟨k, i, none⟩ = W.cell? ⟨k, i, none⟩) → (∀ i, W'.frozen? ⟨k, i, none⟩ = W.frozen? ⟨k, i, none⟩) → k < W'.heap.size → G) : G := K (fun i => hb.cell (p := ⟨k, i, none⟩) h) (fun i => hb.frozen (p := ⟨k, i, none⟩) h) (Nat.lt_of_lt_of_le (Nat.lt_of_lt_of_le h hC) hb.size)
theorem ga_eq {w : World} {o : Obj} {k : Nat} (h : k = w.heap.size) : (w.alloc o).heap[k]? = some o := by subst h; exact box_new w o
theorem ga_ne {w : World} {o : Obj} {k : Nat} {x : Option Obj} (h : k < w.heap.size) (e : w.heap[k]? = x) : (w.alloc o).heap[k]? = x := (Below.heap_alloc w o k h).trans e
theorem st_ne {w : World} {b i : Nat} {v : Value} {k : Nat} {x : Option Obj} (h : k ≠ b) (e : w.heap[k]? = x) : (w.setCell ⟨b, i, none⟩ v).heap[k]? = x := (Below.heap_setCell _ _ _ _ h).trans e
theorem st_eq {w : World} {b i : Nat} {v : Value} {cs cs' : Array Value} {t : TypeId} {fr : Nat × Nat} (h : w.heap[b]? = some (.cells cs t fr)) (e : cs.setIfInBounds i v = cs') : (w.setCell ⟨b, i, none⟩ v).heap[b]? = some (.cells cs' t fr) := by rw [setHeap h, e]
theorem bl_h {C : Nat} {W W' : World} {k : Nat} {x : Option Obj} (hb : Below C W W') (h : k < C) (e : W.heap[k]? = x) : W'.heap[k]? = x := (hb.block k h).trans e
theorem sz_set (w : World) (a : Addr) (v : Value) : (w.setCell a v).heap.size = w.heap.size := by simp [World.setCell]
theorem sz_drew (w : World) : w.drew.heap.size = w.heap.size := rfl
theorem dr_h {W : World} {k : Nat} {x : Option Obj} (e : W.heap[k]? = x) : W.drew.heap[k]? = x := e
/-- two blocks were written, blocks were laid -/
structure PQ (p q : Nat) (w w' : World) : Prop where
  os : w'.os = w.os
  tape : w'.tape = w.tape
  output : w'.output = w.output
  size : w.heap.size ≤ w'.heap.size
  block : ∀ k, k < w.heap.size → k ≠ p → k ≠ q → w'.heap[k]? = w.heap[k]?
theorem PQ.refl (p q : Nat) (w : World) : PQ p q w w := ⟨rfl, rfl, rfl, Nat.le_refl _, fun _ _ _ _ => rfl⟩
theorem PQ.alloc {p q : Nat} {w w' : World} {o : Obj} (h : PQ p q w w') : PQ p q w (w'.alloc o) := ⟨h.os, h.tape, h.output, Nat.le_trans h.size (by simp), fun k hk h1 h2 => (Below.heap_alloc _ _ _ (Nat.lt_of_lt_of_le hk h.size)).trans (h.block k hk h1 h2)⟩
theorem PQ.setp {p q : Nat} {w w' : World} {i : Nat} {v : Value} (h : PQ p q w w') : PQ p q w (w'.setCell ⟨p, i, none⟩ v) := ⟨h.os, h.tape, h.output, by have := h.size; simpa [World.setCell] using this, fun k hk h1 h2 => (Below.heap_setCell _ _ _ _ h1).trans (h.block k hk h1 h2)⟩
theorem PQ.setq {p q : Nat} {w w' : World} {i : Nat} {v : Value} (h : PQ p q w w') : PQ p q w (w'.setCell ⟨q, i, none⟩ v) := ⟨h.os, h.tape, h.output, by have := h.size; simpa [World.setCell] using this, fun k hk h1 h2 => (Below.heap_setCell _ _ _ _ h2).trans (h.block k hk h1 h2)⟩
theorem st12_eq {w : World} {b : Nat} {t : TypeId} {fr : Nat × Nat} {u0 u1 u2 u3 u4 u5 u6 u7 u8 u9 u10 u11 : Value} {v0 v1 v2 v3 v4 v5 v6 v7 v8 v9 v10 v11 : Value} (h : w.heap[b]? = some (.cells #[u0, u1, u2, u3, u4, u5, u6, u7, u8, u9, u10, u11] t fr)) : ((((((((((((w.setCell ⟨b, 0, none⟩ v0).setCell ⟨b, 1, none⟩ v1).setCell ⟨b, 2, none⟩ v2).setCell ⟨b, 3, none⟩ v3).setCell ⟨b, 4, none⟩ v4).setCell ⟨b, 5, none⟩ v5).setCell ⟨b, 6, none⟩ v6).setCell ⟨b, 7, none⟩ v7).setCell ⟨b, 8, none⟩ v8).setCell ⟨b, 9, none⟩ v9).setCell ⟨b, 10, none⟩ v10).setCell ⟨b, 11, none⟩ v11).heap[b]? = some (.cells #[v0, v1, v2, v3, v4, v5, v6, v7, v8, v9, v10, v11] t fr) := (st_eq (cs' := #[v0, v1, v2, v3, v4, v5, v6, v7, v8, v9, v10, v11]) (st_eq (cs' := #[v0, v1, v2, v3, v4, v5, v6, v7, v8, v9, v10, u11]) (st_eq (cs' := #[v0, v1, v2, v3, v4, v5, v6, v7, v8, v9, u10, u11]) (st_eq (cs' := #[v0, v1, v2, v3, v4, v5, v6, v7, v8, u9, u10, u11]) (st_eq (cs' := #[v0, v1, v2, v3, v4, v5, v6, v7, u8, u9, u10, u11]) (st_eq (cs' := #[v0, v1, v2, v3, v4, v5, v6, u7, u8, u9, u10, u11]) (st_eq (cs' := #[v0, v1, v2, v3, v4, v5, u6, u7, u8, u9, u10, u11]) (st_eq (cs' := #[v0, v1, v2, v3, v4, u5, u6, u7, u8, u9, u10, u11]) (st_eq (cs' := #[v0, v1, v2, v3, u4, u5, u6, u7, u8, u9, u10, u11]) (st_eq (cs' := #[v0, v1, v2, u3, u4, u5, u6, u7, u8, u9, u10, u11]) (st_eq (cs' := #[v0, v1, u2, u3, u4, u5, u6, u7, u8, u9, u10, u11]) (st_eq (cs' := #[v0, u1, u2, u3, u4, u5, u6, u7, u8, u9, u10, u11]) h rfl) rfl) rfl) rfl) rfl) rfl) rfl) rfl) rfl) rfl) rfl) rfl)
theorem st12_ne {w : World} {b k : Nat} {x : Option Obj} {v0 v1 v2 v3 v4 v5 v6 v7 v8 v9 v10 v11 : Value} (h : k ≠ b) (e : w.heap[k]? = x) : ((((((((((((w.setCell ⟨b, 0, none⟩ v0).setCell ⟨b, 1, none⟩ v1).setCell ⟨b, 2, none⟩ v2).setCell ⟨b, 3, none⟩ v3).setCell ⟨b, 4, none⟩ v4).setCell ⟨b, 5, none⟩ v5).setCell ⟨b, 6, none⟩ v6).setCell ⟨b, 7, none⟩ v7).setCell ⟨b, 8, none⟩ v8).setCell ⟨b, 9, none⟩ v9).setCell ⟨b, 10, none⟩ v10).setCell ⟨b, 11, none⟩ v11).heap[k]? = x := (st_ne h (st_ne h (st_ne h (st_ne h (st_ne h (st_ne h (st_ne h (st_ne h (st_ne h (st_ne h (st_ne h (st_ne h e))))))))))))
theorem PQ.p12 {p q : Nat} {w0 w : World} {v0 v1 v2 v3 v4 v5 v6 v7 v8 v9 v10 v11 : Value} (h : PQ p q w0 w) : PQ p q w0 ((((((((((((w.setCell ⟨p, 0, none⟩ v0).setCell ⟨p, 1, none⟩ v1).setCell ⟨p, 2, none⟩ v2).setCell ⟨p, 3, none⟩ v3).setCell ⟨p, 4, none⟩ v4).setCell ⟨p, 5, none⟩ v5).setCell ⟨p, 6, none⟩ v6).setCell ⟨p, 7, none⟩ v7).setCell ⟨p, 8, none⟩ v8).setCell ⟨p, 9, none⟩ v9).setCell ⟨p, 10, none⟩ v10).setCell ⟨p, 11, none⟩ v11) := h.setp.setp.setp.setp.setp.setp.setp.setp.setp.setp.setp.setp
theorem PQ.q12 {p q : Nat} {w0 w : World} {v0 v1 v2 v3 v4 v5 v6 v7 v8 v9 v10 v11 : Value} (h : PQ p q w0 w) : PQ p q w0 ((((((((((((w.setCell ⟨q, 0, none⟩ v0).setCell ⟨q, 1, none⟩ v1).setCell ⟨q, 2, none⟩ v2).setCell ⟨q, 3, none⟩ v3).setCell ⟨q, 4, none⟩ v4).setCell ⟨q, 5, none⟩ v5).setCell ⟨q, 6, none⟩ v6).setCell ⟨q, 7, none⟩ v7).setCell ⟨q, 8, none⟩ v8).setCell ⟨q, 9, none⟩ v9).setCell ⟨q, 10, none⟩ v10).setCell ⟨q, 11, none⟩ v11) := h.setq.setq.setq.setq.setq.setq.setq.setq.setq.setq.setq.setq
theorem st5_eq {w : World} {b : Nat} {t : TypeId} {fr : Nat × Nat} {u0 u1 u2 u3 u4 : Value} {v0 v1 v2 v3 v4 : Value} (h : w.heap[b]? = some (.cells #[u0, u1, u2, u3, u4] t fr)) : (((((w.setCell ⟨b, 0, none⟩ v0).setCell ⟨b, 1, none⟩ v1).setCell ⟨b, 2, none⟩ v2).setCell ⟨b, 3, none⟩ v3).setCell ⟨b, 4, none⟩ v4).heap[b]? = some (.cells #[v0, v1, v2, v3, v4] t fr) := (st_eq (cs' := #[v0, v1, v2, v3, v4]) (st_eq (cs' := #[v0, v1, v2, v3, u4]) (st_eq (cs' := #[v0, v1, v2, u3, u4]) (st_eq (cs' := #[v0, v1, u2, u3, u4]) (st_eq (cs' := #[v0, u1, u2, u3, u4]) h rfl) rfl) rfl) rfl) rfl)
theorem st5_ne {w : World} {b k : Nat} {x : Option Obj} {v0 v1 v2 v3 v4 : Value} (h : k ≠ b) (e : w.heap[k]? = x) : (((((w.setCell ⟨b, 0, none⟩ v0).setCell ⟨b, 1, none⟩ v1).setCell ⟨b, 2, none⟩ v2).setCell ⟨b, 3, none⟩ v3).setCell ⟨b, 4, none⟩ v4).heap[k]? = x := (st_ne h (st_ne h (st_ne h (st_ne h (st_ne h e)))))
theorem PQ.p5 {p q : Nat} {w0 w : World} {v0 v1 v2 v3 v4 : Value} (h : PQ p q w0 w) : PQ p q w0 (((((w.setCell ⟨p, 0, none⟩ v0).setCell ⟨p, 1, none⟩ v1).setCell ⟨p, 2, none⟩ v2).setCell ⟨p, 3, none⟩ v3).setCell ⟨p, 4, none⟩ v4) := h.setp.setp.setp.setp.setp
theorem PQ.q5 {p q : Nat} {w0 w : World} {v0 v1 v2 v3 v4 : Value} (h : PQ p q w0 w) : PQ p q w0 (((((w.setCell ⟨q, 0, none⟩ v0).setCell ⟨q, 1, none⟩ v1).setCell ⟨q, 2, none⟩ v2).setCell ⟨q, 3, none⟩ v3).setCell ⟨q, 4, none⟩ v4) := h.setq.setq.setq.setq.setq
/-- the screen, the parser, the results' boxes and the text, behind the cloning -/
def R5 (n0 : Nat) (tS tP : TypeId) (w : World) (T : List UInt8) (W H : Nat) (ab : Option Addr) (cz cq : Array Value) (p q : Nat) (wx : World) : Prop :=
  ∃ gC capC ao cap aP dP, StW tS n0 p gC 0 capC T W H 0 ao cap wx ∧ (∀ i, wx.cell? ⟨q, i, none⟩ = (#[.int .i64 0, .slice aP 0 dP, .bool false, .string ⟨#[]⟩, .string ⟨#[]⟩] : Array Value)[i]?) ∧ q < wx.heap.size ∧ q ≠ p ∧ q ≠ gC ∧ ¬ foot ao cap q ∧ n0 + 4 ≤ p ∧ n0 + 4 ≤ q ∧ n0 + 4 ≤ gC ∧ (∀ k, foot ao cap k → n0 + 4 ≤ k) ∧ wx.heap[n0 + 2]? = some (.cells cz tS (0, 0)) ∧ wx.heap[n0 + 3]? = some (.cells cq tP (0, 0)) ∧ At wx ab (u8s T) ∧ Below n0 w wx
theorem At.same {w w' : World} {a : Option Addr} {xs : List Value} (h : At w a xs) (hb : ∀ k, k < w.heap.size → (∃ o, a = some ⟨k, o, none⟩) → xs ≠ [] → w'.heap[k]? = w.heap[k]?) : At w' a xs := by
  rcases h with h | ⟨b, o, rfl, hc⟩
  · exact .inl h
  · refine .inr ⟨b, o, rfl, fun i hi => ?_⟩
    have hbl : b < w.heap.size := World.block_lt_of_cell? w _ (hc i hi)
    rw [World.cell?_of_block (w := w) (a := ⟨b, o + i, none⟩) (hb b hbl ⟨o, rfl⟩ (by intro e; subst e; simp at hi))]
    exact hc i hi
theorem mkR5 {n0 B : Nat} {tS tP tC tT : TypeId} {w wP W' : World} {T : List UInt8} {W H n p q g cap d' dP' : Nat} {ab aH' aP' : Option Addr} {cx cp cz cq : Array Value} {aC : Option Addr} {xs : List Value}
    (hF : FB n0 tS tP w cx cp cz cq aC xs ab (u8s T) wP) (h2 : PQ p q wP W') (hH : 2 ≤ H) (hW : 2 ≤ W) (hn : W * H = n)
    (bp : W'.heap[p]? = some (.cells #[.int .i64 (W : Int), .int .i64 (H : Int), .int .i64 0, .int .i64 0, .int .i64 0, .int .i64 0, .int .i64 ((H - 1 : Nat) : Int), .int .i64 0, .int .i64 0, .string ⟨#[]⟩, .slice (some ⟨g, 0, none⟩) n cap, .slice aH' 0 d'] tS (0, 0))) (bq : W'.heap[q]? = some (.cells #[.int .i64 0, .slice aP' 0 dP', .bool false, .string ⟨#[]⟩, .string ⟨#[]⟩] tP (0, 0)))
    (oc : wP.ownsRow B tC 2 (.slice (some ⟨g, 0, none⟩) (gridR T W H 0 0).length cap) (gridR T W H 0 0).length (cellsV (gridR T W H 0 0))) (os : wP.ownsRow B tT 1 (.slice aH' 0 d') 0 [])
    (hne : ∀ k o, aH' = some ⟨k, o, none⟩ → k ≠ g ∧ k ≠ p ∧ k ≠ q) (i1 : p ≠ q) (i2 : g ≠ p) (i3 : g ≠ q) (i4 : n0 + 4 ≤ p) (i5 : n0 + 4 ≤ q) (i6 : n0 + 4 ≤ B) (i7 : ∀ k o, ab = some ⟨k, o, none⟩ → u8s T ≠ [] → k ≠ p ∧ k ≠ q) : R5 n0 tS tP w T W H ab cz cq p q W' := by
  rw [length_gridR, hn] at oc
  have hBP : ∀ k, k < wP.heap.size → k ≠ p → k ≠ q → W'.heap[k]? = wP.heap[k]? := h2.block
  have hb7 := box_lt hF.b7
  have hl2 : (cellsV (gridR T W H 0 0)).length = n * 2 := by rw [length_cellsV, length_gridR, hn, Nat.mul_comm]
  have hnp : 4 ≤ n := by have : 2 * 2 ≤ W * H := Nat.mul_le_mul hW hH; omega
  rcases oc.2 with ⟨hv, _⟩ | ⟨g', cap', cur, hv, e1, e2, e3, e4, e5, e6⟩
  · cases hv
  cases hv
  have e2' : W'.heap[g]? = some (.cells cur tC (0, 0)) := (hBP g (box_lt e2) i2 i3).trans e2
  have hcell : ∀ i (h : i < (cellsV (gridR T W H 0 0)).length), W'.cell? ⟨g, 0 + i, none⟩ = some (cellsV (gridR T W H 0 0))[i] ∧ W'.frozen? ⟨g, 0 + i, none⟩ = false := by
    intro i hi
    refine ⟨?_, box_free e2' _⟩
    have hi2 : i < n * 2 := by omega
    rw [Nat.zero_add, box_cells e2']
    have e7 : cur[i]? = (cur.toList.take (n * 2))[i]? := by rw [List.getElem?_take_of_lt hi2]; simp
    rw [e7, e6, List.getElem?_eq_getElem hi]
  have hrow : HRow n0 p g W' aH' d' [] := by
    rcases os.2 with ⟨hv, _⟩ | ⟨k, cap2, cur2, hv, f1, f2, f3, f4, f5, f6⟩
    · cases hv
      exact ⟨Nat.le_refl _, .inl ⟨rfl, rfl⟩⟩
    · cases hv
      obtain ⟨n1, n2, n3⟩ := hne k 0 rfl
      have f2' : W'.heap[k]? = some (.cells cur2 tT (0, 0)) := (hBP k (box_lt f2) n2 n3).trans f2
      refine ⟨Nat.zero_le _, .inr ⟨k, 0, rfl, fun _ => ⟨by omega, n2, n1⟩, fun i hi => ⟨⟨cur2[i]'(by omega), ?_⟩, box_free f2' _⟩, fun i hi => absurd hi (by simp)⟩⟩
      rw [Nat.zero_add, box_cells f2', Array.getElem?_eq_getElem]
  have hft : ∀ k, foot aH' d' k → n0 + 4 ≤ k ∧ k ≠ q := by
    rintro k ⟨h0, o, rfl⟩
    rcases os.2 with ⟨hv, _⟩ | ⟨k', cap2, cur2, hv, f1, f2, _⟩
    · cases hv
    · cases hv
      exact ⟨by omega, (hne _ _ rfl).2.2⟩
  refine ⟨g, cap, aH', d', aP', dP', ⟨0, 0, 0, 0, ⟨by simp, Nat.zero_le _, .inl rfl, Nat.zero_le _⟩, rfl, by omega, by omega, ?_⟩, box_cells bq, box_lt bq, fun e => i1 e.symm, fun e => i3 e.symm, fun hf => (hft q hf).2 rfl, i4, i5, by omega, fun k hk => (hft k hk).1, (hBP _ (by omega) (by omega) (by omega)).trans hF.b6, (hBP _ (by omega) (by omega) (by omega)).trans hF.b7, hF.t.same fun k hk ⟨o, ha⟩ hx => hBP k hk (i7 k o ha hx).1 (i7 k o ha hx).2, ⟨h2.os.trans hF.below.os, h2.tape.trans hF.below.tape, h2.output.trans hF.below.output, Nat.le_trans hF.below.size h2.size, fun k hk => (hBP k (by omega) (by omega) (by omega)).trans (hF.below.block k hk)⟩⟩
  refine ⟨?_, by omega, by omega, i2, ?_, ?_, hcell, hrow⟩
  · rw [bp, length_gridR, hn]; rfl
  · rw [length_gridR, hn]; exact e3
  · rw [length_gridR, hn]; omega
theorem HRow.at {B b gC : Nat} {w : World} {ao : Option Addr} {cap : Nat} {hs : List ByteArray} (h : HRow B b gC w ao cap hs) : At w ao (strs hs) := by
  rcases h.row with ⟨h1, h2⟩ | ⟨g, o, rfl, h1, h2, h3⟩
  · have := h.le
    have h0 : hs = [] := List.eq_nil_of_length_eq_zero (by omega)
    exact .inl (by rw [h0]; rfl)
  · refine .inr ⟨g, o, rfl, fun i hi => ?_⟩
    rw [h3 i (by simpa [strs] using hi)]
    simp [strs]
theorem PQ.drew {p q : Nat} {w w' : World} (h : PQ p q w w') : PQ p q w w'.drew := ⟨h.os, h.tape, h.output, h.size, h.block⟩
/-- the results of FeedScreen, as they stand behind the last stores -/
theorem fsEnd {n0 gC capC cap n g p : Nat} {tS : TypeId} {S : Sc} {T : List UInt8} {W H m : Nat} {ao : Option Addr} {w w8 W' : World} (hs : ScrAt tS n0 p gC 0 capC ao cap S (gridR T W H g m) (histR T W g) w8) (hn : W * H = n) (hg : n0 + 4 ≤ gC) (hf : ∀ k, foot ao cap k → n0 + 4 ≤ k) (hb : Below n0 w w8) (h2 : PQ (n0 + 2) (n0 + 3) w8 W') (hw : w.heap.size = n0) :
    (n ≤ capC ∧ w.heap.size ≤ gC ∧ gC < W'.heap.size ∧ ∀ k o, ao = some ⟨k, o, none⟩ → 0 < g → w.heap.size ≤ k ∧ k < W'.heap.size) ∧ At W' (some ⟨gC, 0, none⟩) (cellsV (gridR T W H g m)) ∧ At W' ao (strs (histR T W g)) ∧ Below w.heap.size w W' := by
  have hz := h2.size
  have hgl := hs.glt
  have hcc := hs.cc
  have hft : ∀ k o, ao = some ⟨k, o, none⟩ → 0 < g → n0 + 4 ≤ k ∧ k < w8.heap.size := by
    intro k o e h0
    have hle := hs.h.le
    rw [length_histR] at hle
    have hk : foot ao cap k := ⟨by omega, o, e⟩
    exact ⟨hf k hk, (hs.h.ft hk).2.2.2⟩
  rw [length_gridR] at hcc
  subst hw
  refine ⟨⟨by omega, by omega, by omega, fun k o e h0 => ?_⟩, ?_, ?_, ?_⟩
  · have := hft k o e h0; omega
  · refine hs.at.same fun k hk ⟨o, ho⟩ _ => ?_
    cases ho
    exact h2.block _ hk (by omega) (by omega)
  · refine hs.h.at.same fun k hk ⟨o, ho⟩ hx => ?_
    have h0 : 0 < g := by
      rcases Nat.eq_zero_or_pos g with h | h
      · subst h; exact absurd rfl hx
      · exact h
    have := hft k o ho h0
    exact h2.block _ hk (by omega) (by omega)
  · exact ⟨h2.os.trans hb.os, h2.tape.trans hb.tape, h2.output.trans hb.output, Nat.le_trans hb.size hz, fun k hk => (h2.block k (Nat.lt_of_lt_of_le hk hb.size) (by omega) (by omega)).trans (hb.block k hk)⟩
theorem scrB_blank {T : List UInt8} {W H : Nat} (w0 : 2 ≤ W) (w1 : W ≤ 24) (h0 : 2 ≤ H) (h1 : H ≤ 10) : scrB (W : Int) (H : Int) 0 0 0 0 ((H - 1 : Nat) : Int) 0 0 ⟨#[]⟩ (gridR T W H 0 0) [] = true := by
  have e1 : sizeB (W : Int) (H : Int) = true := by simp [sizeB, inR]; omega
  have e2 : ((gridR T W H 0 0).all cellB) = true := by rw [gridR_first, List.all_eq_true]; intro c hc; rw [List.eq_of_mem_replicate hc]; exact cell_blC
  have e3 : (((gridR T W H 0 0).length : Int) == (W : Int) * (H : Int)) = true := by rw [length_gridR]; simp
  simp only [scrB, e1, e2, e3, Bool.true_and, Bool.and_true, List.all_nil, List.length_nil]
  have e4 : titleB ⟨#[]⟩ = true := by decide
  rw [e4]
  simp [inR]
  omega
attribute [local irreducible] wpList
set_option maxHeartbeats 40000000 in
theorem feedScreen_any {W H n bC oC c d m cb dP : Nat} {aH aP ab : Option Addr} (T : ByteArray) (w : World) (hT : okT T.data.toList) (w0 : 2 ≤ W) (w1 : W ≤ 24) (h0 : 2 ≤ H) (h1 : H ≤ 10) (hn : T.data.toList.length ≤ W * (H + 3)) (hm : T.size = m) (hWH : W * H = n)
    (hat : At w (some ⟨bC, oC, none⟩) (cellsV (gridR T.data.toList W H 0 0))) (hab : At w ab (u8s T.data.toList)) :
    Calls Tryd.prog 6 #[.agg #[.int .i64 (W : Int), .int .i64 (H : Int), .int .i64 0, .int .i64 0, .int .i64 0, .int .i64 0, .int .i64 ((H - 1 : Nat) : Int), .int .i64 0, .int .i64 0, .string ⟨#[]⟩, .slice (some ⟨bC, oC, none⟩) n c, .slice aH 0 d], .agg #[.int .i64 0, .slice aP 0 dP, .bool false, .string ⟨#[]⟩, .string ⟨#[]⟩], .slice ab m cb] w fun e w' => ∃ r x g y gC oC' capC ao cap aP' dP', Put T.data.toList W r x m ∧ g + y = r ∧ y < H ∧ g = r + 1 - H ∧ e = .returned (.tuple #[.agg #[.int .i64 (W : Int), .int .i64 (H : Int), .int .i64 (x : Int), .int .i64 (y : Int), .int .i64 0, .int .i64 0, .int .i64 ((H - 1 : Nat) : Int), .int .i64 0, .int .i64 0, .string ⟨#[]⟩, .slice (some ⟨gC, oC', none⟩) n capC, .slice ao g cap], .agg #[.int .i64 0, .slice aP' 0 dP', .bool false, .string ⟨#[]⟩, .string ⟨#[]⟩], .int .i64 0]) ∧ (n ≤ capC ∧ w.heap.size ≤ gC ∧ gC < w'.heap.size ∧ ∀ k o, ao = some ⟨k, o, none⟩ → 0 < g → w.heap.size ≤ k ∧ k < w'.heap.size) ∧ At w' (some ⟨gC, oC', none⟩) (cellsV (gridR T.data.toList W H g m)) ∧ At w' ao (strs (histR T.data.toList W g)) ∧ Below w.heap.size w w' := by
  have HF : Hid (FB w.heap.size 27 32 w #[.int .i64 (W : Int), .int .i64 (H : Int), .int .i64 0, .int .i64 0, .int .i64 0, .int .i64 0, .int .i64 ((H - 1 : Nat) : Int), .int .i64 0, .int .i64 0, .string ⟨#[]⟩, .slice (some ⟨bC, oC, none⟩) n c, .slice aH 0 d] #[.int .i64 0, .slice aP 0 dP, .bool false, .string ⟨#[]⟩, .string ⟨#[]⟩] #[.int .i64 0, .int .i64 0, .int .i64 0, .int .i64 0, .int .i64 0, .int .i64 0, .int .i64 0, .int .i64 0, .int .i64 0, .string ⟨#[]⟩, .slice none 0 0, .slice none 0 0] #[.int .i64 0, .slice none 0 0, .bool false, .string ⟨#[]⟩, .string ⟨#[]⟩] (some ⟨bC, oC, none⟩) (cellsV (gridR T.data.toList W H 0 0)) ab (u8s T.data.toList) ((((w.alloc (.cells #[.int .i64 (W : Int), .int .i64 (H : Int), .int .i64 0, .int .i64 0, .int .i64 0, .int .i64 0, .int .i64 ((H - 1 : Nat) : Int), .int .i64 0, .int .i64 0, .string ⟨#[]⟩, .slice (some ⟨bC, oC, none⟩) n c, .slice aH 0 d] 27)).alloc (.cells #[.int .i64 0, .slice aP 0 dP, .bool false, .string ⟨#[]⟩, .string ⟨#[]⟩] 32)).alloc (.cells #[.int .i64 0, .int .i64 0, .int .i64 0, .int .i64 0, .int .i64 0, .int .i64 0, .int .i64 0, .int .i64 0, .int .i64 0, .string ⟨#[]⟩, .slice none 0 0, .slice none 0 0] 27)).alloc (.cells #[.int .i64 0, .slice none 0 0, .bool false, .string ⟨#[]⟩, .string ⟨#[]⟩] 32))) := by
    refine ⟨((((Below.refl _ _).alloc (Nat.le_refl _) _).alloc (by simp) _).alloc (by simp; omega) _).alloc (by simp; omega) _, ?_, ?_, ?_, ?_, ?_, ?_⟩
    · refine (Below.heap_alloc _ _ _ (by simp; omega)).trans ((Below.heap_alloc _ _ _ (by simp; omega)).trans ((Below.heap_alloc _ _ _ (by simp)).trans (box_new w _)))
    · refine (Below.heap_alloc _ _ _ (by simp)).trans ((Below.heap_alloc _ _ _ (by simp)).trans ?_)
      have := box_new (w.alloc (.cells #[.int .i64 (W : Int), .int .i64 (H : Int), .int .i64 0, .int .i64 0, .int .i64 0, .int .i64 0, .int .i64 ((H - 1 : Nat) : Int), .int .i64 0, .int .i64 0, .string ⟨#[]⟩, .slice (some ⟨bC, oC, none⟩) n c, .slice aH 0 d] 27)) (.cells #[.int .i64 0, .slice aP 0 dP, .bool false, .string ⟨#[]⟩, .string ⟨#[]⟩] 32)
      simpa using this
    · refine (Below.heap_alloc _ _ _ (by simp)).trans ?_
      have := box_new ((w.alloc (.cells #[.int .i64 (W : Int), .int .i64 (H : Int), .int .i64 0, .int .i64 0, .int .i64 0, .int .i64 0, .int .i64 ((H - 1 : Nat) : Int), .int .i64 0, .int .i64 0, .string ⟨#[]⟩, .slice (some ⟨bC, oC, none⟩) n c, .slice aH 0 d] 27)).alloc (.cells #[.int .i64 0, .slice aP 0 dP, .bool false, .string ⟨#[]⟩, .string ⟨#[]⟩] 32)) (.cells #[.int .i64 0, .int .i64 0, .int .i64 0, .int .i64 0, .int .i64 0, .int .i64 0, .int .i64 0, .int .i64 0, .int .i64 0, .string ⟨#[]⟩, .slice none 0 0, .slice none 0 0] 27)
      simpa using this
    · have := box_new (((w.alloc (.cells #[.int .i64 (W : Int), .int .i64 (H : Int), .int .i64 0, .int .i64 0, .int .i64 0, .int .i64 0, .int .i64 ((H - 1 : Nat) : Int), .int .i64 0, .int .i64 0, .string ⟨#[]⟩, .slice (some ⟨bC, oC, none⟩) n c, .slice aH 0 d] 27)).alloc (.cells #[.int .i64 0, .slice aP 0 dP, .bool false, .string ⟨#[]⟩, .string ⟨#[]⟩] 32)).alloc (.cells #[.int .i64 0, .int .i64 0, .int .i64 0, .int .i64 0, .int .i64 0, .int .i64 0, .int .i64 0, .int .i64 0, .int .i64 0, .string ⟨#[]⟩, .slice none 0 0, .slice none 0 0] 27)) (.cells #[.int .i64 0, .slice none 0 0, .bool false, .string ⟨#[]⟩, .string ⟨#[]⟩] 32)
      simpa using this
    · exact hat.below (((((Below.refl _ _).alloc (Nat.le_refl _) _).alloc (by simp) _).alloc (by simp; omega) _).alloc (by simp; omega) _) (Nat.le_refl _)
    · exact hab.below (((((Below.refl _ _).alloc (Nat.le_refl _) _).alloc (by simp) _).alloc (by simp; omega) _).alloc (by simp; omega) _) (Nat.le_refl _)
  have hz : ((((w.alloc (.cells #[.int .i64 (W : Int), .int .i64 (H : Int), .int .i64 0, .int .i64 0, .int .i64 0, .int .i64 0, .int .i64 ((H - 1 : Nat) : Int), .int .i64 0, .int .i64 0, .string ⟨#[]⟩, .slice (some ⟨bC, oC, none⟩) n c, .slice aH 0 d] 27)).alloc (.cells #[.int .i64 0, .slice aP 0 dP, .bool false, .string ⟨#[]⟩, .string ⟨#[]⟩] 32)).alloc (.cells #[.int .i64 0, .int .i64 0, .int .i64 0, .int .i64 0, .int .i64 0, .int .i64 0, .int .i64 0, .int .i64 0, .int .i64 0, .string ⟨#[]⟩, .slice none 0 0, .slice none 0 0] 27)).alloc (.cells #[.int .i64 0, .slice none 0 0, .bool false, .string ⟨#[]⟩, .string ⟨#[]⟩] 32)).heap.size = w.heap.size + 4 := by simp
  have hm3 : m ≤ 312 := by
    have e : T.data.toList.length = T.size := by simp
    have : W * (H + 3) ≤ 24 * 13 := Nat.mul_le_mul w1 (by omega)
    omega
  have hn4 : 4 ≤ n := by have : 2 * 2 ≤ W * H := Nat.mul_le_mul w0 h0; omega
  have hn5 : n ≤ 240 := by have : W * H ≤ 24 * 10 := Nat.mul_le_mul w1 h1; omega
  have HT := Lib.hid hT
  have HN := Lib.hid hn
  have HM := Lib.hid hm
  have HW := Lib.hid hWH
  have HLG : Hid ((gridR T.data.toList W H 0 0).length = n) := by show _ = _; rw [length_gridR]; exact hWH
  have HSB : Hid (scrB (W : Int) (H : Int) 0 0 0 0 ((H - 1 : Nat) : Int) 0 0 ⟨#[]⟩ (gridR T.data.toList W H 0 0) [] = true) := scrB_blank w0 w1 h0 h1
  have HAB : Hid (∀ k o, ab = some ⟨k, o, none⟩ → u8s T.data.toList ≠ [] → k < w.heap.size) := by
    intro k o e hx
    obtain ⟨b1, o1, e1, hc1⟩ := hab.get hx
    rw [e1] at e
    cases e
    obtain ⟨x, xs, hx2⟩ := List.exists_cons_of_ne_nil hx
    exact World.block_lt_of_cell? w _ (hc1 0 (by rw [hx2]; simp))
  clear hT hn hat hab hm hWH
  go_enter Tryd.func6, Tryd.ntmps6
  go_wp2_with fail
  generalize ((((w.alloc (.cells #[.int .i64 (W : Int), .int .i64 (H : Int), .int .i64 0, .int .i64 0, .int .i64 0, .int .i64 0, .int .i64 ((H - 1 : Nat) : Int), .int .i64 0, .int .i64 0, .string ⟨#[]⟩, .slice (some ⟨bC, oC, none⟩) n c, .slice aH 0 d] 27)).alloc (.cells #[.int .i64 0, .slice aP 0 dP, .bool false, .string ⟨#[]⟩, .string ⟨#[]⟩] 32)).alloc (.cells #[.int .i64 0, .int .i64 0, .int .i64 0, .int .i64 0, .int .i64 0, .int .i64 0, .int .i64 0, .int .i64 0, .int .i64 0, .string ⟨#[]⟩, .slice none 0 0, .slice none 0 0] 27)).alloc (.cells #[.int .i64 0, .slice none 0 0, .bool false, .string ⟨#[]⟩, .string ⟨#[]⟩] 32)) = W4 at *
  generalize hn0 : w.heap.size = n0 at *
  have HF1 := Lib.hid (HF.out.alloc (.cells #[.int .i64 (m : Int)] 3))
  have hat1 : At (W4.alloc (.cells #[.int .i64 (m : Int)] 3)) (some ⟨n0 + 4, 0, none⟩) (i64s [(m : Int)]) := by
    have := box_cells (box_new W4 (.cells #[.int .i64 (m : Int)] 3))
    rw [hz] at this
    refine .inr ⟨_, _, rfl, fun i hi => ?_⟩
    rw [Nat.zero_add, this]
    obtain rfl : i = 0 := by simpa [i64s] using hi
    rfl
  refine (isLong_any _ 1 1 [(m : Int)] _ hat1 rfl (by decide)).mono ?_
  have hl0 : ([(m : Int)].any fun x => decide (65536 < x)) = false := by simp; omega
  rw [hl0]
  rintro e w1 ⟨rfl, rfl⟩
  generalize W4.alloc (.cells #[.int .i64 (m : Int)] 3) = W5 at *
  have x3 := box_cells HF1.out.b3
  clear hat1 HF hl0 hz
  go_wp2_with fail
  refine (isScreen_any (W : Int) (H : Int) 0 0 0 0 ((H - 1 : Nat) : Int) 0 0 ⟨#[]⟩ (some ⟨bC, oC, none⟩) n c (gridR T.data.toList W H 0 0) aH 0 d [] _ (by decide) HF1.out.c (by rw [length_gridR]; exact HW.out) (by unfold maxLen; omega) (.inl rfl) rfl (by decide) (by simp)).mono ?_
  rw [HSB.out]
  rintro e w6 ⟨rfl, hb6⟩
  have HF2 := Lib.hid (HF1.out.next hb6)
  have x4 := box_cells HF2.out.b4
  clear HF1 x3 hb6
  go_wp2_with fail
  refine (isParser0_any aP dP _).mono ?_
  rintro e w7 ⟨rfl, hb7⟩
  have HF3 := Lib.hid (HF2.out.next hb7)
  have x3 := box_cells HF3.out.b3
  have x4 := box_cells HF3.out.b4
  clear HF2 hb7
  go_upto_region 5 with fail
  -- region 5
  have z7 := box_lt HF3.out.b7
  go_cut [9, 10] from 29 to 32 (fun v9 v10 wx => ∃ p q, v9 = .pointer (some ⟨p, 0, none⟩) ∧ v10 = .pointer (some ⟨q, 0, none⟩) ∧ Hid (R5 n0 27 32 w T.data.toList W H ab #[.int .i64 0, .int .i64 0, .int .i64 0, .int .i64 0, .int .i64 0, .int .i64 0, .int .i64 0, .int .i64 0, .int .i64 0, .string ⟨#[]⟩, .slice none 0 0, .slice none 0 0] #[.int .i64 0, .slice none 0 0, .bool false, .string ⟨#[]⟩, .string ⟨#[]⟩] p q wx))
  case first =>
    go_region_held3 (fun w' => (∀ i, w'.cell? ⟨n0, i, none⟩ = (#[.int .i64 (W : Int), .int .i64 (H : Int), .int .i64 0, .int .i64 0, .int .i64 0, .int .i64 0, .int .i64 ((H - 1 : Nat) : Int), .int .i64 0, .int .i64 0, .string ⟨#[]⟩, .slice (some ⟨bC, oC, none⟩) n c, .slice aH 0 d] : Array Value)[i]?) ∧ (∀ i, w'.cell? ⟨n0 + 1, i, none⟩ = (#[.int .i64 0, .slice aP 0 dP, .bool false, .string ⟨#[]⟩, .string ⟨#[]⟩] : Array Value)[i]?)) (first | with_reducible exact HFP.out.S | with_reducible exact (HFP.out.alloc _).S | with_reducible exact ((HFP.out.alloc _).alloc _).S | with_reducible exact HFC.out.S | with_reducible exact (HFC.out.alloc _).S | with_reducible exact ((HFC.out.alloc _).alloc _).S | with_reducible exact HF3.out.drew.S | with_reducible exact (HF3.out.alloc _).drew.S | with_reducible exact ((HF3.out.alloc _).alloc _).drew.S | ((repeat (first | (with_reducible refine S_set ?_ ?_; focus omega) | (with_reducible refine S_alloc ?_ ?_; focus (first | omega | (simp; omega))))); (first | with_reducible exact HFP.out.S | with_reducible exact HFC.out.S | with_reducible exact HF3.out.drew.S | with_reducible exact (HF3.out.alloc _).drew.S | with_reducible exact ((HF3.out.alloc _).alloc _).drew.S)))
      (first
      | (go_at_call 14; (first | (refine (cloneScreen_any _ HLG.out (by omega) (by omega) HF3.out.drew.c).mono ?_; rintro e wC ⟨g, cap, aH', d', rfl, hne, hE⟩; have HFC := Lib.hid (HF3.out.drew.next hE.below); have zC := hE.below.size; (try simp at zC); (try (refine lay_cells hE.below (Nat.le_refl _) (w7.heap.size) ?_ ?_; (focus (first | omega | (simp; done) | (simp; omega))); intro ka lka ska)); (try (refine lay_cells hE.below (Nat.le_refl _) (w7.heap.size + 1) ?_ ?_; (focus (first | omega | (simp; done) | (simp; omega))); intro kb lkb skb)); obtain ⟨B0, zb, zg1, zg2, hoc, hos, zk⟩ := hE.facts (m := w7.heap.size + 2) (by simp <;> omega); have HBC := Lib.hid hE.below; clear hE) | (refine (cloneScreen_any _ HLG.out (by omega) (by omega) (HF3.out.alloc _).drew.c).mono ?_; rintro e wC ⟨g, cap, aH', d', rfl, hne, hE⟩; have HFC := Lib.hid ((HF3.out.alloc _).drew.next hE.below); have zC := hE.below.size; (try simp at zC); (try (refine lay_cells hE.below (Nat.le_refl _) (w7.heap.size) ?_ ?_; (focus (first | omega | (simp; done) | (simp; omega))); intro ka lka ska)); (try (refine lay_cells hE.below (Nat.le_refl _) (w7.heap.size + 1) ?_ ?_; (focus (first | omega | (simp; done) | (simp; omega))); intro kb lkb skb)); obtain ⟨B0, zb, zg1, zg2, hoc, hos, zk⟩ := hE.facts (m := w7.heap.size + 2) (by simp <;> omega); have HBC := Lib.hid hE.below; clear hE) | (refine (cloneScreen_any _ HLG.out (by omega) (by omega) ((HF3.out.alloc _).alloc _).drew.c).mono ?_; rintro e wC ⟨g, cap, aH', d', rfl, hne, hE⟩; have HFC := Lib.hid (((HF3.out.alloc _).alloc _).drew.next hE.below); have zC := hE.below.size; (try simp at zC); (try (refine lay_cells hE.below (Nat.le_refl _) (w7.heap.size) ?_ ?_; (focus (first | omega | (simp; done) | (simp; omega))); intro ka lka ska)); (try (refine lay_cells hE.below (Nat.le_refl _) (w7.heap.size + 1) ?_ ?_; (focus (first | omega | (simp; done) | (simp; omega))); intro kb lkb skb)); obtain ⟨B0, zb, zg1, zg2, hoc, hos, zk⟩ := hE.facts (m := w7.heap.size + 2) (by simp <;> omega); have HBC := Lib.hid hE.below; clear hE)))
      | (go_at_call 15; (first | (refine (cloneParser_any aP dP _).mono ?_; rintro e wP ⟨aP', dP', rfl, hbP⟩; have HFP := Lib.hid (HFC.out.next hbP); have HOC := Lib.hid (own_next hoc hbP); have HOS := Lib.hid (own_next hos hbP); have zP := hbP.size; (try simp at zP); (try (refine lay_cells hbP (Nat.le_refl _) (w7.heap.size) ?_ ?_; (focus (first | omega | (simp; done) | (simp; omega))); intro kc lkc skc)); (try (refine lay_cells hbP (Nat.le_refl _) (w7.heap.size + 1) ?_ ?_; (focus (first | omega | (simp; done) | (simp; omega))); intro kd lkd skd)); (try (refine lay_cells hbP (Nat.le_refl _) (wC.heap.size) ?_ ?_; (focus (first | omega | (simp; done) | (simp; omega))); intro ke lke ske)); (try (refine lay_cells hbP (Nat.le_refl _) (wC.heap.size + 1) ?_ ?_; (focus (first | omega | (simp; done) | (simp; omega))); intro kf lkf skf)); have HBP := Lib.hid hbP; clear hbP) | (refine (cloneParser_any aP dP _).mono ?_; rintro e wP ⟨aP', dP', rfl, hbP⟩; have HFP := Lib.hid ((HFC.out.alloc _).next hbP); have HOC := Lib.hid (own_next (hoc.alloc _) hbP); have HOS := Lib.hid (own_next (hos.alloc _) hbP); have zP := hbP.size; (try simp at zP); (try (refine lay_cells hbP (Nat.le_refl _) (w7.heap.size) ?_ ?_; (focus (first | omega | (simp; done) | (simp; omega))); intro kc lkc skc)); (try (refine lay_cells hbP (Nat.le_refl _) (w7.heap.size + 1) ?_ ?_; (focus (first | omega | (simp; done) | (simp; omega))); intro kd lkd skd)); (try (refine lay_cells hbP (Nat.le_refl _) (wC.heap.size) ?_ ?_; (focus (first | omega | (simp; done) | (simp; omega))); intro ke lke ske)); (try (refine lay_cells hbP (Nat.le_refl _) (wC.heap.size + 1) ?_ ?_; (focus (first | omega | (simp; done) | (simp; omega))); intro kf lkf skf)); have HBP := Lib.hid hbP; clear hbP) | (refine (cloneParser_any aP dP _).mono ?_; rintro e wP ⟨aP', dP', rfl, hbP⟩; have HFP := Lib.hid (((HFC.out.alloc _).alloc _).next hbP); have HOC := Lib.hid (own_next ((hoc.alloc _).alloc _) hbP); have HOS := Lib.hid (own_next ((hos.alloc _).alloc _) hbP); have zP := hbP.size; (try simp at zP); (try (refine lay_cells hbP (Nat.le_refl _) (w7.heap.size) ?_ ?_; (focus (first | omega | (simp; done) | (simp; omega))); intro kc lkc skc)); (try (refine lay_cells hbP (Nat.le_refl _) (w7.heap.size + 1) ?_ ?_; (focus (first | omega | (simp; done) | (simp; omega))); intro kd lkd skd)); (try (refine lay_cells hbP (Nat.le_refl _) (wC.heap.size) ?_ ?_; (focus (first | omega | (simp; done) | (simp; omega))); intro ke lke ske)); (try (refine lay_cells hbP (Nat.le_refl _) (wC.heap.size + 1) ?_ ?_; (focus (first | omega | (simp; done) | (simp; omega))); intro kf lkf skf)); have HBP := Lib.hid hbP; clear hbP)))
      | fail)
    all_goals
      go_wp2_with fail
      go_meet
      case rel =>
        clear x3 x4
        refine ⟨_, _, rfl, rfl, ?_⟩
        refine mkR5 (g := g) (cap := cap) (d' := d') (dP' := dP') (aH' := aH') (aP' := aP') (tC := 57) (tT := 9) (B := B0) HFP.out ?_ h0 w0 HW.out ?_ ?_ HOC.out HOS.out (fun k o e => ⟨hne k o e, ?_, ?_⟩) ?_ ?_ ?_ ?_ ?_ ?_ (fun k o e hx => ⟨?_, ?_⟩)
        · repeat (first | with_reducible exact PQ.refl _ _ _ | with_reducible refine PQ.alloc ?_ | with_reducible refine PQ.p12 ?_ | with_reducible refine PQ.q5 ?_)
        · (repeat (first | (with_reducible refine ga_eq ?_; (focus (first | omega | (simp only [sz_set, sz_drew, World.size_alloc] <;> omega)))) | (with_reducible refine ga_ne ?_ ?_; (focus (first | omega | (simp only [sz_set, sz_drew, World.size_alloc] <;> omega)))) | (with_reducible apply st12_eq) | (with_reducible apply st5_eq) | (with_reducible refine st12_ne ?_ ?_; focus omega) | (with_reducible refine st5_ne ?_ ?_; focus omega) | (with_reducible refine bl_h (W' := wP) HBP.out ?_ ?_; (focus (first | omega | (simp only [sz_set, sz_drew, World.size_alloc] <;> omega)))) | (with_reducible refine bl_h (W' := wC) HBC.out ?_ ?_; (focus (first | omega | (simp only [sz_set, sz_drew, World.size_alloc] <;> omega)))) | (with_reducible refine dr_h ?_)))
        · (repeat (first | (with_reducible refine ga_eq ?_; (focus (first | omega | (simp only [sz_set, sz_drew, World.size_alloc] <;> omega)))) | (with_reducible refine ga_ne ?_ ?_; (focus (first | omega | (simp only [sz_set, sz_drew, World.size_alloc] <;> omega)))) | (with_reducible apply st12_eq) | (with_reducible apply st5_eq) | (with_reducible refine st12_ne ?_ ?_; focus omega) | (with_reducible refine st5_ne ?_ ?_; focus omega) | (with_reducible refine bl_h (W' := wP) HBP.out ?_ ?_; (focus (first | omega | (simp only [sz_set, sz_drew, World.size_alloc] <;> omega)))) | (with_reducible refine bl_h (W' := wC) HBC.out ?_ ?_; (focus (first | omega | (simp only [sz_set, sz_drew, World.size_alloc] <;> omega)))) | (with_reducible refine dr_h ?_)))
        · have h2 := zk k o e; omega
        · have h2 := zk k o e; omega
        · omega
        · omega
        · omega
        · omega
        · omega
        · omega
        · have h1 := HAB.out k o e hx; omega
        · have h1 := HAB.out k o e hx; omega
  obtain ⟨p, q, rfl, rfl, HR⟩ := hcut
  clear HF3 x3 x4 z7 HLG HSB HAB
  rename World => wx
  obtain ⟨gC, capC, ao, cap, aP', dP', hst, hqc, hql, hqp, hqg, hqf, hp4, hq4, hg4, hft, hb6, hb7, hT6, hB6⟩ := HR.out
  have HST := Lib.hid hst
  have HQC := Lib.hid hqc
  have HQF := Lib.hid hqf
  have HFT := Lib.hid hft
  have HB6 := Lib.hid hb6
  have HB7 := Lib.hid hb7
  have HBW := Lib.hid hB6
  have cv : (convert 22 9 (.slice ab m cb)).run Tryd.prog wx = .ok (.string T) wx := by
    have := conv_at (P := Tryd.prog) 22 9 5 m cb Tryd.underlying22 Tryd.underlying5 Tryd.underlying9 hT6 (by simpa using HM.out)
    rw [this]
  clear HR hst hqc hqf hft hb6 hb7 hT6 hB6
  go_wp2_with fail
  refine (feed_any T HT.out w0 w1 h0 h1 HN.out HST.out (HQC.out 0) hqp hqg HQF.out).mono ?_
  rintro e w8 ⟨rfl, ao2, cap2, hs2, hk2, hn2⟩
  obtain ⟨r, x, g, y, i1, i2, i3, i4, hsc⟩ := hs2
  rw [HM.out] at i1 hsc
  have x8 := ScrAt.x hsc
  rw [length_gridR, length_histR, HW.out] at x8
  have y8 : ∀ i, w8.cell? ⟨q, i, none⟩ = (#[.int .i64 0, .slice aP' 0 dP', .bool false, .string ⟨#[]⟩, .string ⟨#[]⟩] : Array Value)[i]? := fun i => (World.cell?_of_block (w := wx) (a := ⟨q, i, none⟩) (hk2.block q hql hqp hqg HQF.out)).trans (HQC.out i)
  have l7 := box_lt HB7.out
  have b6 := (hk2.block (n0 + 2) (by omega) (by omega) (by omega) (fun hf => by have := HFT.out _ hf; omega)).trans HB6.out
  have b7 := (hk2.block (n0 + 3) (by omega) (by omega) (by omega) (fun hf => by have := HFT.out _ hf; omega)).trans HB7.out
  have x6 := box_cells b6
  have f6 := box_free b6
  have x7 := box_cells b7
  have f7 := box_free b7
  have B8 : Hid (Below n0 w w8) := ⟨hk2.os.trans HBW.out.os, hk2.tape.trans HBW.out.tape, hk2.output.trans HBW.out.output, Nat.le_trans HBW.out.size hk2.size, fun k hk => (hk2.block k (by omega) (by omega) (by omega) (fun hf => by have := HFT.out _ hf; omega)).trans (HBW.out.block k hk)⟩
  have HFT2 : Hid (∀ k, foot ao2 cap2 k → n0 + 4 ≤ k) := fun k hk => by
    rcases hn2 k hk with h | h
    · exact HFT.out k h
    · omega
  have HSC := Lib.hid hsc
  have HP1 := Lib.hid i1
  have HP2 := Lib.hid i2
  have HP4 := Lib.hid i4
  clear hsc i1 i2 i4 hk2 hn2 b6 b7 HBW HB6 HB7 HFT HQF HQC HST cv HT HN
  go_wp2_with fail
  go_region
  all_goals
    go_wp2
    refine bodyPost_ret (v := .tuple #[.agg #[.int .i64 (W : Int), .int .i64 (H : Int), .int .i64 (x : Int), .int .i64 (y : Int), .int .i64 0, .int .i64 0, .int .i64 ((H - 1 : Nat) : Int), .int .i64 0, .int .i64 0, .string ⟨#[]⟩, .slice (some ⟨gC, 0, none⟩) n capC, .slice ao2 g cap2], .agg #[.int .i64 0, .slice aP' 0 dP', .bool false, .string ⟨#[]⟩, .string ⟨#[]⟩], .int .i64 0]) (by simp [results, Tryd.results6, x6, x7, go_sem]) rfl ⟨r, x, g, y, gC, 0, capC, ao2, cap2, aP', dP', HP1.out, HP2.out, i3, HP4.out, rfl, fsEnd HSC.out HW.out hg4 HFT2.out B8.out ?_ hn0⟩
    (repeat (first | with_reducible exact PQ.refl _ _ _ | with_reducible refine PQ.drew ?_ | with_reducible refine PQ.p12 ?_ | with_reducible refine PQ.q5 ?_))
end Go.Proofs.YtfpbboldfilhlaaDoor
