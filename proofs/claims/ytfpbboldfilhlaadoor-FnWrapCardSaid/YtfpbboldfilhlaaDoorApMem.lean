/-
  A screen that is written on: how it stands in memory (its box, its cells, its rows that went), and what a store, a copy and an append leave of it. No program in sight. No condition.
-/
import Derived.Test.YtfpbboldfilhlaaDoorCells
import Derived.Test.YtfpbboldfilhlaaDoorRepeat
import Derived.Test.YtfpbboldfilhlaaDoorIn
import Derived.ArgAppend
namespace Go.Proofs.YtfpbboldfilhlaaDoor
open Go.ChangeShapes Go.WideShapes Go.ChangeAt Go.RowKit
set_option linter.unusedVariables false
set_option linter.unusedSimpArgs false
/-- the numbers and the title of a screen -/
structure Sc where
  W : Nat
  H : Nat
  x : Nat
  y : Nat
  lk : Nat
  tp : Nat
  bt : Nat
  sx : Nat
  sy : Nat
  ti : ByteArray
def Sc.arr (S : Sc) (aC : Option Addr) (n capC : Nat) (ao : Option Addr) (m cap : Nat) : Array Value :=
  #[.int .i64 (S.W : Int), .int .i64 (S.H : Int), .int .i64 (S.x : Int), .int .i64 (S.y : Int), .int .i64 (S.lk : Int), .int .i64 (S.tp : Int), .int .i64 (S.bt : Int), .int .i64 (S.sx : Int), .int .i64 (S.sy : Int), .string S.ti, .slice aC n capC, .slice ao m cap]
/-- the block of a row that has room -/
def foot (ao : Option Addr) (cap k : Nat) : Prop := 0 < cap ∧ ∃ o, ao = some ⟨k, o, none⟩
/-- texts of rows that went, in a row that may be appended to -/
structure HRow (B b gC : Nat) (w : World) (ao : Option Addr) (cap : Nat) (hs : List ByteArray) : Prop where
  le : hs.length ≤ cap
  row : (ao = none ∧ cap = 0) ∨ ∃ g o, ao = some ⟨g, o, none⟩ ∧ (0 < cap → B ≤ g ∧ g ≠ b ∧ g ≠ gC) ∧ (∀ i, i < cap → (∃ v, w.cell? ⟨g, o + i, none⟩ = some v) ∧ w.frozen? ⟨g, o + i, none⟩ = false) ∧ ∀ i (h : i < hs.length), w.cell? ⟨g, o + i, none⟩ = some (.string hs[i])
theorem HRow.ft {B b gC : Nat} {w : World} {ao : Option Addr} {cap : Nat} {hs : List ByteArray} (h : HRow B b gC w ao cap hs) {k : Nat} (hk : foot ao cap k) : B ≤ k ∧ k ≠ b ∧ k ≠ gC ∧ k < w.heap.size := by
  obtain ⟨h0, o, rfl⟩ := hk
  rcases h.row with ⟨h1, _⟩ | ⟨g, o', he, h1, h2, _⟩
  · cases h1
  · cases he
    obtain ⟨v, hv⟩ := (h2 0 h0).1
    exact ⟨(h1 h0).1, (h1 h0).2.1, (h1 h0).2.2, World.block_lt_of_cell? w _ hv⟩
theorem HRow.congr {B b gC : Nat} {w w' : World} {ao : Option Addr} {cap : Nat} {hs : List ByteArray} (h : HRow B b gC w ao cap hs) (hk : ∀ k, foot ao cap k → w'.heap[k]? = w.heap[k]?) : HRow B b gC w' ao cap hs := by
  refine ⟨h.le, ?_⟩
  rcases h.row with h1 | ⟨g, o, rfl, h1, h2, h3⟩
  · exact .inl h1
  · refine .inr ⟨g, o, rfl, h1, fun i hi => ?_, fun i hi => ?_⟩
    · have e := hk g ⟨by omega, o, rfl⟩
      rw [World.cell?_of_block (w := w) (a := ⟨g, o + i, none⟩) e, World.frozen?_of_block (w := w) (a := ⟨g, o + i, none⟩) e]
      exact h2 i hi
    · have e := hk g ⟨by have := h.le; omega, o, rfl⟩
      rw [World.cell?_of_block (w := w) (a := ⟨g, o + i, none⟩) e]
      exact h3 i hi
theorem HRow.drop1 {B b gC : Nat} {w : World} {ao : Option Addr} {cap : Nat} {hs : List ByteArray} (h : HRow B b gC w ao cap hs) (h2 : 2 ≤ hs.length) :
    ∃ g o, ao = some ⟨g, o, none⟩ ∧ HRow B b gC w (some ⟨g, o + 1, none⟩) (cap - 1) (hs.drop 1) ∧ (∀ k, foot (some ⟨g, o + 1, none⟩) (cap - 1) k → foot ao cap k) ∧ 1 < cap := by
  have hle := h.le
  rcases h.row with ⟨_, h1⟩ | ⟨g, o, rfl, r1, r2, r3⟩
  · omega
  · refine ⟨g, o, rfl, ⟨by rw [List.length_drop]; omega, .inr ⟨g, o + 1, rfl, fun _ => r1 (by omega), fun i hi => ?_, fun i hi => ?_⟩⟩, fun k hk => ?_, by omega⟩
    · rw [show o + 1 + i = o + (i + 1) from by omega]; exact r2 (i + 1) (by omega)
    · rw [List.length_drop] at hi
      rw [show o + 1 + i = o + (i + 1) from by omega, r3 (i + 1) (by omega), List.getElem_drop]
      congr 2
      simp only [Nat.add_comm]
    · obtain ⟨_, o', he⟩ := hk
      cases he
      exact ⟨by omega, o, rfl⟩
/-- a screen in memory -/
structure ScrAt (ty : TypeId) (B b gC oC capC : Nat) (ao : Option Addr) (cap : Nat) (S : Sc) (cs : List (Int × Int)) (hs : List ByteArray) (w : World) : Prop where
  box : w.heap[b]? = some (.cells (S.arr (some ⟨gC, oC, none⟩) cs.length capC ao hs.length cap) ty (0, 0))
  bB : B ≤ b
  gB : B ≤ gC
  ne : gC ≠ b
  cc : cs.length ≤ capC
  c0 : 0 < cs.length
  cells : ∀ i (h : i < (cellsV cs).length), w.cell? ⟨gC, oC + i, none⟩ = some (cellsV cs)[i] ∧ w.frozen? ⟨gC, oC + i, none⟩ = false
  h : HRow B b gC w ao cap hs
section
variable {ty : TypeId} {B b gC oC capC : Nat} {ao : Option Addr} {cap : Nat} {S : Sc} {cs : List (Int × Int)} {hs : List ByteArray} {w w' : World}
theorem ScrAt.lt (h : ScrAt ty B b gC oC capC ao cap S cs hs w) : b < w.heap.size := box_lt h.box
theorem ScrAt.glt (h : ScrAt ty B b gC oC capC ao cap S cs hs w) : gC < w.heap.size := World.block_lt_of_cell? w _ (h.cells 0 (by rw [length_cellsV]; have := h.c0; omega)).1
theorem ScrAt.at (h : ScrAt ty B b gC oC capC ao cap S cs hs w) : At w (some ⟨gC, oC, none⟩) (cellsV cs) := .inr ⟨gC, oC, rfl, fun i hi => (h.cells i hi).1⟩
theorem ScrAt.keep (h : ScrAt ty B b gC oC capC ao cap S cs hs w) (hb : w'.heap[b]? = w.heap[b]?) (hg : w'.heap[gC]? = w.heap[gC]?) (hk : ∀ k, foot ao cap k → w'.heap[k]? = w.heap[k]?) : ScrAt ty B b gC oC capC ao cap S cs hs w' :=
  ⟨hb.trans h.box, h.bB, h.gB, h.ne, h.cc, h.c0, fun i hi => by
    rw [World.cell?_of_block (w := w) (a := ⟨gC, oC + i, none⟩) hg, World.frozen?_of_block (w := w) (a := ⟨gC, oC + i, none⟩) hg]; exact h.cells i hi, h.h.congr hk⟩
theorem ScrAt.below (h : ScrAt ty B b gC oC capC ao cap S cs hs w) {C : Nat} (hb : Below C w w') (hC : w.heap.size ≤ C) : ScrAt ty B b gC oC capC ao cap S cs hs w' :=
  h.keep (hb.block _ (Nat.lt_of_lt_of_le h.lt hC)) (hb.block _ (Nat.lt_of_lt_of_le h.glt hC)) fun k hk => hb.block _ (Nat.lt_of_lt_of_le (h.h.ft hk).2.2.2 hC)
theorem ScrAt.drew (h : ScrAt ty B b gC oC capC ao cap S cs hs w) : ScrAt ty B b gC oC capC ao cap S cs hs w.drew := h.keep rfl rfl fun _ _ => rfl
theorem ScrAt.drewN (h : ScrAt ty B b gC oC capC ao cap S cs hs w) (n : Nat) : ScrAt ty B b gC oC capC ao cap S cs hs (w.drewN n) := h.keep rfl rfl fun _ _ => rfl
theorem ScrAt.alloc (h : ScrAt ty B b gC oC capC ao cap S cs hs w) (o : Obj) : ScrAt ty B b gC oC capC ao cap S cs hs (w.alloc o) := h.below ((Below.refl _ _).alloc (Nat.le_refl _) o) (Nat.le_refl _)
theorem ScrAt.x {W H x y lk tp bt sx sy : Nat} {ti : ByteArray} (h : ScrAt ty B b gC oC capC ao cap ⟨W, H, x, y, lk, tp, bt, sx, sy, ti⟩ cs hs w) :
    ∀ i, w.cell? ⟨b, i, none⟩ = (#[.int .i64 (W : Int), .int .i64 (H : Int), .int .i64 (x : Int), .int .i64 (y : Int), .int .i64 (lk : Int), .int .i64 (tp : Int), .int .i64 (bt : Int), .int .i64 (sx : Int), .int .i64 (sy : Int), .string ti, .slice (some ⟨gC, oC, none⟩) cs.length capC, .slice ao hs.length cap] : Array Value)[i]? := box_cells h.box
theorem ScrAt.f (h : ScrAt ty B b gC oC capC ao cap S cs hs w) : ∀ i, w.frozen? ⟨b, i, none⟩ = false := box_free h.box
theorem setHeap {w : World} {b : Nat} {cs : Array Value} {t : TypeId} {fr : Nat × Nat} (h : w.heap[b]? = some (.cells cs t fr)) (i : Nat) (v : Value) : (w.setCell ⟨b, i, none⟩ v).heap[b]? = some (.cells (cs.setIfInBounds i v) t fr) := by
  simp [World.setCell, Array.getElem?_modify, h]
/-- a store into the box, not of the slices -/
theorem ScrAt.setB (h : ScrAt ty B b gC oC capC ao cap S cs hs w) (i : Nat) (v : Value) (S' : Sc) (e : ∀ a n c a' n' c', (S.arr a n c a' n' c').setIfInBounds i v = S'.arr a n c a' n' c') : ScrAt ty B b gC oC capC ao cap S' cs hs (w.setCell ⟨b, i, none⟩ v) := by
  have hg : (w.setCell ⟨b, i, none⟩ v).heap[gC]? = w.heap[gC]? := Below.heap_setCell _ _ _ _ h.ne
  refine ⟨by rw [setHeap h.box, e], h.bB, h.gB, h.ne, h.cc, h.c0, fun j hj => ?_, h.h.congr fun k hk => Below.heap_setCell _ _ _ _ (h.h.ft hk).2.1⟩
  rw [World.cell?_of_block (w := w) (a := ⟨gC, oC + j, none⟩) hg, World.frozen?_of_block (w := w) (a := ⟨gC, oC + j, none⟩) hg]
  exact h.cells j hj
/-- another row of texts is stored -/
theorem ScrAt.setH (h : ScrAt ty B b gC oC capC ao cap S cs hs w) {ao' : Option Addr} {cap' : Nat} {hs' : List ByteArray} (hh : HRow B b gC w ao' cap' hs') : ScrAt ty B b gC oC capC ao' cap' S cs hs' (w.setCell ⟨b, 11, none⟩ (.slice ao' hs'.length cap')) := by
  have hg : (w.setCell ⟨b, 11, none⟩ (.slice ao' hs'.length cap')).heap[gC]? = w.heap[gC]? := Below.heap_setCell _ _ _ _ h.ne
  refine ⟨by rw [setHeap h.box]; rfl, h.bB, h.gB, h.ne, h.cc, h.c0, fun j hj => ?_, hh.congr fun k hk => Below.heap_setCell _ _ _ _ (hh.ft hk).2.1⟩
  rw [World.cell?_of_block (w := w) (a := ⟨gC, oC + j, none⟩) hg, World.frozen?_of_block (w := w) (a := ⟨gC, oC + j, none⟩) hg]
  exact h.cells j hj
theorem ScrAt.setN (h : ScrAt ty B b gC oC capC ao cap S cs hs w) {ao' : Option Addr} {cap' : Nat} {hs' : List ByteArray} (hh : HRow B b gC w ao' cap' hs') (n : Nat) (hn : n = hs'.length) : ScrAt ty B b gC oC capC ao' cap' S cs hs' (w.setCell ⟨b, 11, none⟩ (.slice ao' n cap')) := by
  subst hn; exact h.setH hh
/-- behind an append to the row of texts: the new row is stored -/
theorem ScrAt.pushed (h : ScrAt ty B b gC oC capC ao cap S cs hs w) {ao' : Option Addr} {cap' : Nat} {hs' : List ByteArray} (hh : HRow B b gC w' ao' cap' hs') (hk : ∀ k, k = b ∨ k = gC → w'.heap[k]? = w.heap[k]?) (n : Nat) (hn : n = hs'.length) : ScrAt ty B b gC oC capC ao' cap' S cs hs' (w'.setCell ⟨b, 11, none⟩ (.slice ao' n cap')) := by
  subst hn
  have hg0 := hk gC (.inr rfl)
  have hg : (w'.setCell ⟨b, 11, none⟩ (.slice ao' hs'.length cap')).heap[gC]? = w.heap[gC]? := (Below.heap_setCell _ _ _ _ h.ne).trans hg0
  refine ⟨by rw [setHeap ((hk b (.inl rfl)).trans h.box)]; rfl, h.bB, h.gB, h.ne, h.cc, h.c0, fun j hj => ?_, hh.congr fun k hk => Below.heap_setCell _ _ _ _ (hh.ft hk).2.1⟩
  rw [World.cell?_of_block (w := w) (a := ⟨gC, oC + j, none⟩) hg, World.frozen?_of_block (w := w) (a := ⟨gC, oC + j, none⟩) hg]
  exact h.cells j hj
theorem heap_setCells {g : Nat} {k : Nat} (hk : k ≠ g) : ∀ (vs : List Value) (o : Nat) (w : World), (w.setCells g o vs).heap[k]? = w.heap[k]?
  | [], o, w => rfl
  | v :: vs, o, w => by rw [World.setCells, heap_setCells hk vs (o + 1), Below.heap_setCell _ _ _ _ hk]
/-- cells are copied into the screen's, from place k on -/
theorem ScrAt.write (h : ScrAt ty B b gC oC capC ao cap S cs hs w) (k : Nat) (vs : List (Int × Int)) (hk : k + vs.length ≤ cs.length) : ScrAt ty B b gC oC capC ao cap S (cs.take k ++ (vs ++ cs.drop (k + vs.length))) hs (w.setCells gC (oC + k * 2) (cellsV vs)) := by
  have hl : (cs.take k ++ (vs ++ cs.drop (k + vs.length))).length = cs.length := by simp; omega
  have hm := mine_setCells (Nat.le_refl gC) h.cells (k * 2) (cellsV vs) (by rw [length_cellsV, length_cellsV]; omega)
  have e : (cellsV cs).take (k * 2) ++ (cellsV vs ++ (cellsV cs).drop (k * 2 + (cellsV vs).length)) = cellsV (cs.take k ++ (vs ++ cs.drop (k + vs.length))) := by
    rw [length_cellsV, show k * 2 + 2 * vs.length = (k + vs.length) * 2 from by omega]
    simp only [cellsV, List.flatMap_append]
    congr 1
    · exact cellsV_take cs k
    · congr 1
      exact cellsV_drop cs (k + vs.length)
  rw [e] at hm
  have hb : (w.setCells gC (oC + k * 2) (cellsV vs)).heap[b]? = w.heap[b]? := heap_setCells (fun e => h.ne e.symm) _ _ _
  refine ⟨by rw [hb, h.box, hl], h.bB, h.gB, h.ne, by rw [hl]; exact h.cc, by rw [hl]; exact h.c0, ?_, h.h.congr fun j hj => heap_setCells (h.h.ft hj).2.2.1 _ _ _⟩
  obtain ⟨g2, o2, he, _, h2⟩ := hm.get (by intro e0; have := congrArg List.length e0; rw [length_cellsV, hl] at this; have h3 := h.c0; simp at this; omega)
  simp only [Option.some.injEq, Addr.mk.injEq, and_true] at he
  obtain ⟨rfl, rfl⟩ := he
  exact h2
end
/-- what a method that writes on a screen leaves as it was -/
structure Kept (b gC : Nat) (ao : Option Addr) (cap : Nat) (w w' : World) : Prop where
  os : w'.os = w.os
  tape : w'.tape = w.tape
  output : w'.output = w.output
  size : w.heap.size ≤ w'.heap.size
  block : ∀ k, k < w.heap.size → k ≠ b → k ≠ gC → ¬ foot ao cap k → w'.heap[k]? = w.heap[k]?
/-- the row's block is the elder one or a new one -/
def NewH (ao : Option Addr) (cap : Nat) (w : World) (ao' : Option Addr) (cap' : Nat) : Prop := ∀ k, foot ao' cap' k → foot ao cap k ∨ w.heap.size ≤ k
theorem NewH.refl (ao : Option Addr) (cap : Nat) (w : World) : NewH ao cap w ao cap := fun _ h => .inl h
section
variable {b gC : Nat} {ao ao1 ao2 : Option Addr} {cap cap1 cap2 : Nat} {w w1 w2 : World}
theorem Kept.refl (b gC : Nat) (ao : Option Addr) (cap : Nat) (w : World) : Kept b gC ao cap w w := ⟨rfl, rfl, rfl, Nat.le_refl _, fun _ _ _ _ _ => rfl⟩
theorem Kept.trans (h : Kept b gC ao cap w w1) (hn : NewH ao cap w ao1 cap1) (k : Kept b gC ao1 cap1 w1 w2) : Kept b gC ao cap w w2 :=
  ⟨k.os.trans h.os, k.tape.trans h.tape, k.output.trans h.output, Nat.le_trans h.size k.size, fun i hi h1 h2 h3 => (k.block i (Nat.lt_of_lt_of_le hi h.size) h1 h2 fun hf => (hn i hf).elim h3 (fun h4 => by omega)).trans (h.block i hi h1 h2 h3)⟩
theorem NewH.trans (h : NewH ao cap w ao1 cap1) (hs : w.heap.size ≤ w1.heap.size) (k : NewH ao1 cap1 w1 ao2 cap2) : NewH ao cap w ao2 cap2 := fun i hi => (k i hi).elim (h i) (fun h2 => .inr (Nat.le_trans hs h2))
theorem Kept.drew (h : Kept b gC ao cap w w1) : Kept b gC ao cap w w1.drew := ⟨h.os, h.tape, h.output, h.size, h.block⟩
theorem Kept.drewN (h : Kept b gC ao cap w w1) (n : Nat) : Kept b gC ao cap w (w1.drewN n) := ⟨h.os, h.tape, h.output, h.size, h.block⟩
theorem Kept.below (h : Kept b gC ao cap w w1) {C : Nat} (hb : Below C w1 w2) (hC : w1.heap.size ≤ C) : Kept b gC ao cap w w2 :=
  ⟨hb.os.trans h.os, hb.tape.trans h.tape, hb.output.trans h.output, Nat.le_trans h.size hb.size, fun i hi h1 h2 h3 => (hb.block i (Nat.lt_of_lt_of_le (Nat.lt_of_lt_of_le hi h.size) hC)).trans (h.block i hi h1 h2 h3)⟩
theorem Kept.alloc (h : Kept b gC ao cap w w1) (o : Obj) : Kept b gC ao cap w (w1.alloc o) := h.below ((Below.refl _ _).alloc (Nat.le_refl _) o) (Nat.le_refl _)
theorem Kept.set (h : Kept b gC ao cap w w1) (i : Nat) (v : Value) : Kept b gC ao cap w (w1.setCell ⟨b, i, none⟩ v) :=
  ⟨h.os, h.tape, h.output, by have := h.size; simpa [World.setCell] using this, fun k hk h1 h2 h3 => (Below.heap_setCell _ _ _ _ h1).trans (h.block k hk h1 h2 h3)⟩
theorem Kept.cells (h : Kept b gC ao cap w w1) : ∀ (vs : List Value) (o : Nat), Kept b gC ao cap w (w1.setCells gC o vs) := fun vs o => by
  have hb := below_setCells (Nat.zero_le gC) vs o w1 (Below.refl 0 w1)
  exact ⟨hb.os.trans h.os, hb.tape.trans h.tape, hb.output.trans h.output, Nat.le_trans h.size hb.size, fun k hk h1 h2 h3 => (heap_setCells h2 vs o w1).trans (h.block k hk h1 h2 h3)⟩
theorem Kept.floor (h : Kept b gC ao cap w w1) {ty : TypeId} {B oC capC : Nat} {S : Sc} {cs : List (Int × Int)} {hs : List ByteArray} (hs : ScrAt ty B b gC oC capC ao cap S cs hs w) : Below B w w1 :=
  ⟨h.os, h.tape, h.output, h.size, fun k hk => h.block k (Nat.lt_of_lt_of_le hk (Nat.le_trans hs.bB (Nat.le_of_lt hs.lt))) (by have := hs.bB; omega) (by have := hs.gB; omega) (fun hf => by have := (hs.h.ft hf).1; omega)⟩
end
/-- 'append(history, text)': in place where there is room, else into a new row -/
theorem run_append_hist {P : Program} (w : World) (t ty e : TypeId) (i : TypeInfo) (ht : P.underlying t = some (.slice e)) (hi : P.info? e = some i) (hz : i.zero = some (.string ⟨#[]⟩)) (hsz : i.size = 1) (hby : i.bytes = 16)
    {B b gC : Nat} {ao : Option Addr} {cap : Nat} {hs : List ByteArray} (h : HRow B b gC w ao cap hs) (hn : hs.length ≤ 100) (hB : B ≤ w.heap.size) (hb : b < w.heap.size) (hg : gC < w.heap.size) (ad : Addr) (c : Nat) (tx : ByteArray) (hx : w.cell? ad = some (.string tx)) :
    ∃ ao' cap' w', (Builtin.append_ #[t, t] ty #[.slice ao hs.length cap, .slice (some ad) 1 c]).run P w = .ok (.slice ao' (hs.length + 1) cap') w' ∧ HRow B b gC w' ao' cap' (hs ++ [tx]) ∧ HRow B b gC w' ao cap hs ∧ Kept b gC ao cap w w' ∧ NewH ao cap w ao' cap' ∧ (∀ k, k = b ∨ k = gC → w'.heap[k]? = w.heap[k]?) := by
  have hnews : ∀ j u, ([Value.string tx] : List Value)[j]? = some u → w.cell? (ad.add j) = some u := by
    intro j u hj
    match j, hj with
    | 0, hj => simp at hj; subst hj; rw [show ad.add 0 = ad from by unfold Addr.add; split <;> simp_all]; exact hx
    | j + 1, hj => simp at hj
  have h1 : ∀ u ∈ ([Value.string tx] : List Value), u.oneCell' = true := by intro u hu; simp at hu; subst hu; rfl
  have grow : ∀ (v' : Value) (w' : World), w'.ownsRow w.heap.size e 1 v' (hs.length + 1) (strs hs ++ [.string tx]) → w.grownBy w' none → ∃ ao' cap', v' = .slice ao' (hs.length + 1) cap' ∧ HRow B b gC w' ao' cap' (hs ++ [tx]) ∧ HRow B b gC w' ao cap hs ∧ Kept b gC ao cap w w' ∧ NewH ao cap w ao' cap' ∧ (∀ k, k = b ∨ k = gC → w'.heap[k]? = w.heap[k]?) := by
    intro v' w' hown hgrow
    have keep : ∀ k, k < w.heap.size → w'.heap[k]? = w.heap[k]? := fun k hk => hgrow.block k hk (by simp)
    rcases hown.2 with ⟨_, h0⟩ | ⟨g, cap', cur, rfl, hgB, hgg, hle, _, hcs, htake⟩
    · omega
    · refine ⟨_, cap', rfl, ⟨by simp; exact hle, .inr ⟨g, 0, rfl, fun _ => ⟨by omega, by omega, by omega⟩, fun j hj => ?_, fun j hj => ?_⟩⟩, h.congr fun k hk => keep k (h.ft hk).2.2.2, ⟨hgrow.os, hgrow.tape, hgrow.output, hgrow.size, fun k hk _ _ _ => keep k hk⟩, fun k hk => ?_, fun k hk => keep k (by rcases hk with rfl | rfl; exact hb; exact hg)⟩
      · refine ⟨⟨cur[j]'(by omega), ?_⟩, box_free hgg _⟩
        rw [Nat.zero_add, box_cells hgg, Array.getElem?_eq_getElem]
      · rw [Nat.zero_add, box_cells hgg]
        have hj' : j < hs.length + 1 := by simpa using hj
        have e1 : cur[j]? = (cur.toList.take ((hs.length + 1) * 1))[j]? := by rw [List.getElem?_take_of_lt (by omega)]; simp
        rw [e1, htake, show strs hs ++ [Value.string tx] = strs (hs ++ [tx]) from by simp [strs]]
        unfold strs
        rw [List.getElem?_map, List.getElem?_eq_getElem hj]
        rfl
      · obtain ⟨_, o', he⟩ := hk
        cases he
        exact .inr hgB
  rcases h.row with ⟨rfl, rfl⟩ | ⟨g, o, rfl, hr1, hr2, hr3⟩
  · have h0 : hs = [] := List.eq_nil_of_length_eq_zero (by have := h.le; omega)
    subst h0
    obtain ⟨v', w', hrun, r1, r2, _⟩ := run_append_own (P := P) w w.heap.size t ty e i (.string ⟨#[]⟩) 1 16 ht hi hz hsz hby rfl (by decide) (.slice none 0 0) 0 [] (World.ownsRow_nil w _ e 1) ad 1 c [.string tx] rfl hnews h1 (by unfold maxLen; omega) (by omega) (Nat.le_refl _)
    obtain ⟨ao', cap', rfl, q⟩ := grow v' w' r1 r2
    exact ⟨ao', cap', w', hrun, q⟩
  · by_cases hroom : hs.length + 1 ≤ cap
    · have hrun := run_append_room_cells (P := P) w t ty e i ht hi g o hs.length cap ad 1 c [.string tx] (by simp [hsz]) hnews h1 hroom
        (fun j hj => by obtain rfl : j = 0 := (by simpa using hj); rw [hsz]; obtain ⟨v, hv⟩ := (hr2 hs.length (by omega)).1; rw [Nat.mul_one, Nat.add_zero, hv]; rfl)
        (fun j hj => by obtain rfl : j = 0 := (by simpa using hj); rw [hsz, Nat.mul_one, Nat.add_zero]; exact (hr2 hs.length (by omega)).2)
      rw [hsz, Nat.mul_one] at hrun
      obtain ⟨n1, n2, n3⟩ := hr1 (by omega)
      have hold : ∀ (j : Nat) (p : Nat), p ≠ o + hs.length → (w.setCell ⟨g, o + hs.length, none⟩ (.string tx)).cell? ⟨g, p, none⟩ = w.cell? ⟨g, p, none⟩ := fun j p hp => World.cell?_setCell_other _ _ _ _ (fun e => hp (by injection e with _ e2; exact e2.symm))
      have hself : (w.setCell ⟨g, o + hs.length, none⟩ (.string tx)).cell? ⟨g, o + hs.length, none⟩ = some (.string tx) := by
        obtain ⟨v, hv⟩ := (hr2 hs.length (by omega)).1
        exact World.cell?_setCell_same _ _ _ (by rw [hv])
      refine ⟨some ⟨g, o, none⟩, cap, w.setCells g (o + hs.length) [.string tx], hrun, ⟨by simp; omega, .inr ⟨g, o, rfl, hr1, fun j hj => ?_, fun j hj => ?_⟩⟩, ⟨h.le, .inr ⟨g, o, rfl, hr1, fun j hj => ?_, fun j hj => ?_⟩⟩, ⟨rfl, rfl, rfl, by rw [size_setCells]; exact Nat.le_refl _, fun k hk k1 k2 k3 => heap_setCells (fun e => k3 ⟨by omega, o, by rw [e]⟩) _ _ _⟩, NewH.refl _ _ _, fun k hk => heap_setCells (by rcases hk with rfl | rfl; exact n2.symm; exact n3.symm) _ _ _⟩
      · show (∃ v, (w.setCell ⟨g, o + hs.length, none⟩ (.string tx)).cell? _ = _) ∧ (w.setCell ⟨g, o + hs.length, none⟩ (.string tx)).frozen? _ = _
        rw [World.frozen?_setCell]
        refine ⟨?_, (hr2 j hj).2⟩
        by_cases e : j = hs.length
        · subst e; exact ⟨_, hself⟩
        · obtain ⟨v, hv⟩ := (hr2 j hj).1
          exact ⟨v, by rw [hold j _ (by omega)]; exact hv⟩
      · show (w.setCell ⟨g, o + hs.length, none⟩ (.string tx)).cell? _ = _
        by_cases e : j = hs.length
        · subst e; rw [hself]; simp
        · have hj' : j < hs.length := by simp at hj; omega
          rw [hold j _ (by omega), hr3 j hj', List.getElem_append_left hj']
      · show (∃ v, (w.setCell ⟨g, o + hs.length, none⟩ (.string tx)).cell? _ = _) ∧ (w.setCell ⟨g, o + hs.length, none⟩ (.string tx)).frozen? _ = _
        rw [World.frozen?_setCell]
        refine ⟨?_, (hr2 j hj).2⟩
        by_cases e : j = hs.length
        · subst e; exact ⟨_, hself⟩
        · obtain ⟨v, hv⟩ := (hr2 j hj).1
          exact ⟨v, by rw [hold j _ (by omega)]; exact hv⟩
      · show (w.setCell ⟨g, o + hs.length, none⟩ (.string tx)).cell? _ = _
        rw [hold j _ (by omega), hr3 j hj]
    · obtain ⟨v', w', hrun, r1, r2⟩ := run_append_arg_grows (P := P) w t ty e i (.string ⟨#[]⟩) 1 16 ht hi hz hsz hby rfl (by decide) ⟨g, o, none⟩ hs.length cap (strs hs) (by rw [length_strs, Nat.mul_one])
        (fun j u hj => by
          rw [Addr.add_lit]
          have hj' : j < hs.length := by have := (List.getElem?_eq_some_iff.1 hj).1; rwa [length_strs] at this
          rw [hr3 j hj', ← hj]; simp [strs, List.getElem?_map, hj'])
        ad 1 c [.string tx] rfl hnews (by omega) (by unfold maxLen; omega) (by omega)
      obtain ⟨ao', cap', rfl, q⟩ := grow v' w' r1 r2
      exact ⟨ao', cap', w', hrun, q⟩
/-- the same as a step of a region that draws its order -/
theorem step_append_hist {P : Program} (w : World) {ops : Array Oper} {o : Oper} {a : Act} {K : Act → World → Prop} {Q : Exit → Act → World → Prop} {E : Prop} (hgd : o.guard = none) (sl x : Operand) (t : TypeId)
    (ho : o.op = .call { callee := .builtin .append, args := #[sl, x], argTypes := #[t, t] })
    (e : TypeId) (i : TypeInfo) (ht : P.underlying t = some (.slice e)) (hi : P.info? e = some i) (hz : i.zero = some (.string ⟨#[]⟩)) (hsz : i.size = 1) (hby : i.bytes = 16)
    {B b gC : Nat} {ao : Option Addr} {cap : Nat} {hs : List ByteArray} (h : HRow B b gC w ao cap hs) (hn : hs.length ≤ 100) (hB : B ≤ w.heap.size) (hb : b < w.heap.size) (hg : gC < w.heap.size) (ad : Addr) (c : Nat) (tx : ByteArray)
    (hs1 : a.eval sl = .slice ao hs.length cap) (hx1 : a.eval x = .slice (some ad) 1 c) (hx : w.cell? ad = some (.string tx))
    (K1 : ∀ ao' cap' w', HRow B b gC w' ao' cap' (hs ++ [tx]) → HRow B b gC w' ao cap hs → Kept b gC ao cap w w' → NewH ao cap w ao' cap' → (∀ k, k = b ∨ k = gC → w'.heap[k]? = w.heap[k]?) → K (a.put o.dst (.slice ao' (hs.length + 1) cap')) w') :
    if Region.wanted o (yielded ops a.tmps) = true then Oper.wp P o a w K Q else E := by
  have hw : Region.wanted o (yielded ops a.tmps) = true := by simp [Region.wanted, hgd]
  rw [if_pos hw]
  obtain ⟨ao', cap', w', hr, h2, h3, h4, h5, h6⟩ := run_append_hist (P := P) w t o.type e i ht hi hz hsz hby h hn hB hb hg ad c tx hx
  unfold Oper.wp execOp
  simp only [ho, resolve, invoke, builtin, Sem.run_bind, Sem.run_pure, Result.andThen_ok, List.map_toArray, List.map_cons, List.map_nil, hs1, hx1, hr]
  exact K1 _ _ _ h2 h3 h4 h5 h6
end Go.Proofs.YtfpbboldfilhlaaDoor
