/-
  The counts of the law FnAreas in memory: an own slice of numbers, one for each place. No program in sight. No condition.
-/
import Derived.Test.YtlmppnckimoclaaGrid
import Derived.Test.YtlmppnckimoclaaLayFit
import Derived.Test.YtlmppnckimoclaaSlices
namespace Go.Proofs.Ytlmppnckimoclaa
open Go.ChangeShapes Go.WideShapes Go.ChangeAt Go.RowKit
set_option linter.unusedVariables false
/-- behind world c, in block B (c's size), the counts f stand; nothing below B has turned -/
structure Seen (B sz : Nat) (f : Nat → Nat) (c wr : World) : Prop where
  m : ∀ j, j < sz → wr.cell? ⟨B, j, none⟩ = some (.int .i64 (f j : Nat)) ∧ wr.frozen? ⟨B, j, none⟩ = false
  b : Below B c wr
  lt : B < wr.heap.size
theorem Seen.congr {B sz : Nat} {f g : Nat → Nat} {c wr : World} (h : Seen B sz f c wr) (e : ∀ j, f j = g j) : Seen B sz g c wr := by
  have : f = g := funext e
  subst this; exact h
theorem Seen.alloc {B sz : Nat} {f : Nat → Nat} {c wr : World} (h : Seen B sz f c wr) (o : Obj) : Seen B sz f c (wr.alloc o) :=
  have hb : Below wr.heap.size wr (wr.alloc o) := (Below.refl _ _).alloc (Nat.le_refl _) o
  ⟨fun j hj => by rw [hb.cell (p := ⟨B, j, none⟩) h.lt, hb.frozen (p := ⟨B, j, none⟩) h.lt]; exact h.m j hj, h.b.alloc (Nat.le_of_lt h.lt) o, by have := h.lt; simp; omega⟩
theorem Seen.drew {B sz : Nat} {f : Nat → Nat} {c wr : World} (h : Seen B sz f c wr) : Seen B sz f c wr.drew := ⟨h.m, h.b.drew, h.lt⟩
theorem Seen.drewN {B sz : Nat} {f : Nat → Nat} {c wr : World} (h : Seen B sz f c wr) (n : Nat) : Seen B sz f c (wr.drewN n) := ⟨h.m, ⟨h.b.os, h.b.tape, h.b.output, h.b.size, h.b.block⟩, h.lt⟩
theorem Seen.store {B sz : Nat} {f g : Nat → Nat} {c wr : World} (h : Seen B sz f c wr) {k v : Nat} (hk : k < sz) (e : ∀ j, g j = if j = k then v else f j) : Seen B sz g c (wr.setCell ⟨B, k, none⟩ (.int .i64 (v : Nat))) := by
  have hm : ∀ i (hi : i < (i64s (gridL sz f)).length), wr.cell? ⟨B, 0 + i, none⟩ = some (i64s (gridL sz f))[i] ∧ wr.frozen? ⟨B, 0 + i, none⟩ = false := by
    intro i hi
    have hi' : i < sz := by rw [length_i64s, length_gridL] at hi; exact hi
    rw [Nat.zero_add]
    obtain ⟨h1, h2⟩ := h.m i hi'
    refine ⟨?_, h2⟩
    rw [h1]; simp [i64s, gridL]
  have := Mine.store (Nat.le_refl B) hm k (.int .i64 (v : Nat))
  rw [Nat.zero_add] at this
  refine ⟨fun j hj => ?_, h.b.setCell (Nat.le_refl _) _, by have := h.lt; simpa [World.setCell] using this⟩
  obtain ⟨h1, h2⟩ := this j (by rw [List.length_set, length_i64s, length_gridL]; exact hj)
  rw [Nat.zero_add] at h1 h2
  refine ⟨?_, h2⟩
  rw [h1, e j]
  by_cases ej : j = k
  · subst ej; simp
  · rw [if_neg ej, List.getElem_set_ne (fun x => ej x.symm)]; simp [i64s, gridL]
theorem Seen.of {B sz : Nat} {c wr : World} (h : Mine B wr (some ⟨B, 0, none⟩) (List.replicate sz (Value.int .i64 0))) (hs : 0 < sz) (hb : Below B c wr) : Seen B sz (fun _ => 0) c wr := by
  obtain ⟨b, off, e, hB, h⟩ := h.get (by intro e; have := congrArg List.length e; simp at this; omega)
  simp only [Option.some.injEq, Addr.mk.injEq, and_true] at e
  obtain ⟨rfl, rfl⟩ := e
  refine ⟨fun j hj => ?_, hb, ?_⟩
  · have := h j (by simpa using hj)
    rw [Nat.zero_add] at this
    simpa using this
  · exact World.block_lt_of_cell? wr _ (h 0 (by simpa using hs)).1
end Go.Proofs.Ytlmppnckimoclaa
