/-
  Contracts: 'Builder.WriteRune' at a builder that the call has made; the reference's l03Utf. Conditions: the number is a rune, a bound on what is held.
-/
import Derived.Test.YtfpbboldfilhlaaDoorRuneP
import Derived.Test.YtfpbboldfilhlaaDoorBuilder
import Derived.Test.YtfpbboldfilhlaaDoorShelf
import Derived.Test.YtfpbboldfilhlaaDoorIn
import Derived.Lib.FrozenHead
namespace Go.Proofs.YtfpbboldfilhlaaDoor
open Go.ChangeShapes Go.WideShapes Go.ChangeAt Go.RowKit
set_option linter.unusedVariables false
set_option linter.unusedSimpArgs false
set_option maxRecDepth 100000
/-- a builder (its row's head may be frozen) stays what it is while nothing below its block's end turns -/
theorem isBuilderF_below {T e : TypeId} {B b : Nat} {bs : List Value} {w w' : World} (h : Lib.IsBuilderF T e B b bs w) (hb : Below w.heap.size w w') : Lib.IsBuilderF T e B b bs w' := by
  have key : ∀ p, Lib.BuilderAtF T e B b p bs w → Lib.BuilderAtF T e B b p bs w' := fun p ⟨h1, v, h2, h3, h4⟩ =>
    ⟨h1, v, by rw [hb.block b (Array.getElem?_eq_some_iff.1 h2).1]; exact h2, h3.kept (row := none) ⟨hb.os, hb.tape, hb.output, hb.size, fun k hk _ => hb.block k hk⟩ (by cases hv : v.ownBlock <;> simp), h4⟩
  exact h.elim (fun h => .inl (key _ h)) (fun h => .inr (key _ h))
theorem copyCheckF_any (B b : Nat) (bs : List Value) (w : World) (h : Lib.IsBuilderF 71 5 B b bs w) :
    Calls Tryd.prog 54 #[.pointer (some ⟨b, 0, none⟩)] w fun e w' => e = .returned (.tuple #[]) ∧ (Lib.BuilderAtF 71 5 B b (.pointer (some ⟨b, 0, none⟩)) bs w' ∧ Below B w w') := by
  rcases h with h | h
  · refine (copyCheck_fresh b w h.cell0 h.shape h.frozen0).mono ?_
    rintro e w' ⟨rfl, rfl⟩
    exact ⟨rfl, h.used _, (Below.refl B w).setCell (p := ⟨b, 0, none⟩) h.1 _⟩
  · refine (copyCheck_used b w h.cell0).mono ?_
    rintro e w' ⟨rfl, rfl⟩
    exact ⟨rfl, h, Below.refl B _⟩
set_option maxHeartbeats 1000000 in
theorem writeRune_any (B b : Nat) (bs : List Value) (r : Int) (w : World) (hr0 : 0 ≤ r) (hr1 : r ≤ 1114111) (h : Lib.IsBuilderF 71 5 B b bs w) (hlen : bs.length + 4 ≤ 140737488355328) (hBw : B ≤ w.heap.size) :
    Calls Tryd.prog 35 #[.pointer (some ⟨b, 0, none⟩), .int .i32 r] w fun e w' => ∃ v, e = .returned v ∧ (Lib.IsBuilderF 71 5 B b (bs ++ Lib.runeCells r) w' ∧ Below B w w') := by
  have hk4 := Lib.runeCells_le r
  go_enter Tryd.func35, Tryd.ntmps35
  go_wp2_with (go_at_call 54; refine (copyCheckF_any B b bs _ h).mono ?_)
  rintro e w1 ⟨rfl, h1, hb1⟩
  obtain ⟨hB, v, hbk, hown, hne⟩ := h1
  obtain ⟨ao, cap, rfl⟩ : ∃ ao cap, v = .slice ao bs.length cap := by
    rcases hown.2 with ⟨hv, h0⟩ | ⟨g, cap, cur, fz, hv, _⟩
    · exact ⟨none, 0, by rw [hv, h0]⟩
    · exact ⟨_, _, hv⟩
  have c0 : w1.cell? ⟨b, 0, none⟩ = some (.pointer (some ⟨b, 0, none⟩)) := by rw [Lib.cell_of_heap hbk]; rfl
  have c1 : w1.cell? ⟨b, 1, none⟩ = some (.slice ao bs.length cap) := by rw [Lib.cell_of_heap hbk]; rfl
  have HO := Lib.hid hown
  have hz1 := hb1.size
  go_wp2_with (go_at_call 55; refine (Tryd.utf8_AppendRune_row B _ bs.length bs r (by omega) (by omega) _ HO.out hlen (by omega)).mono ?_)
  rintro e w2 ⟨v', rfl, hown', o, hgrow⟩
  have hlt : b < w1.heap.size := (Array.getElem?_eq_some_iff.1 hbk).1
  have hgA : Below B w1 w2 := by
    have h0 : Below B w1 (w1.alloc o) := (Below.refl _ _).alloc (by omega) o
    exact h0.grown hgrow (by simp; omega) (fun k hk => (hown.lt k hk).1)
  have hb2 : w2.heap[b]? = some (.cells #[.pointer (some ⟨b, 0, none⟩), .slice ao bs.length cap] 71 (0, 0)) := by
    rw [hgrow.block b (by simp; omega) (fun e => hne e.symm), Below.heap_alloc _ _ _ hlt]
    exact hbk
  have d0 : w2.cell? ⟨b, 0, none⟩ = some (.pointer (some ⟨b, 0, none⟩)) := by rw [Lib.cell_of_heap hb2]; rfl
  have d1 : w2.cell? ⟨b, 1, none⟩ = some (.slice ao bs.length cap) := by rw [Lib.cell_of_heap hb2]; rfl
  have f1 : w2.frozen? ⟨b, 1, none⟩ = false := Lib.frozen_of_heap hb2 1
  obtain ⟨ao2, n', cap2, rfl⟩ : ∃ ao n' cap, v' = .slice ao n' cap := by
    rcases hown'.2 with ⟨hv, _⟩ | ⟨g, cap, cur, fz, hv, _⟩
    · exact ⟨_, _, _, hv⟩
    · exact ⟨_, _, _, hv⟩
  have HO2 := Lib.hid hown'
  have HB2 := Lib.hid hb2
  have HGA := Lib.hid (hb1.trans hgA)
  clear hown hown' hgrow hgA hb1 HO c0 c1 hbk hb2 hne
  go_wp2
  go_ret2
  refine ⟨_, rfl, .inr ?_, ?_⟩
  · exact Lib.BuilderAtF.put (T := 71) (e := 5) hB HB2.out (bs' := bs ++ Lib.runeCells r) (by simpa using HO2.out) (by decide)
  · exact HGA.out.setCell (p := ⟨b, 1, none⟩) hB _
/-- the conversion of bytes just laid to a string -/
theorem conv_bytes (l : List UInt8) (n : Nat) (hn : l.length = n) (W : World) (B : Nat) (cs : Array Value) (hcs : cs.toList = u8s l) (h : W.heap[B]? = some (.cells cs 5 (0, 0))) :
    (convert 22 9 (.slice (some ⟨B, 0, none⟩) n n)).run Tryd.prog W = .ok (.string ⟨l.toArray⟩) W := by
  have ha : At W (some ⟨B, 0, none⟩) (u8s l) := by
    have := at_block h
    rw [hcs] at this
    exact this
  exact conv_at 22 9 5 n n Tryd.underlying22 Tryd.underlying5 Tryd.underlying9 ha hn
attribute [local irreducible] wpList
/-- what the conversion of a rune's bytes gives -/
def UtfC (r : Int) (l : List Int) (en : List UInt8) : Prop := ∀ (W : World) (B : Nat), W.heap[B]? = some (.cells (l.map (Value.int .u8)).toArray 5 (0, 0)) →
      (convert 22 9 (.slice (some ⟨B, 0, none⟩) l.length l.length)).run Tryd.prog W = .ok (.string ⟨en.toArray⟩) W
theorem utfC_of (r : Int) (l : List Int) (e : Lib.encodeRuneZ r = l) : UtfC r l (Lib.encodeRune r) := by
  intro W B h
  have hl : ∀ x ∈ l, 0 ≤ x ∧ x < 256 := by rw [← e]; exact Lib.encodeRuneZ_byte r
  refine conv_bytes _ l.length ?_ W B _ ?_ h
  · simp [Lib.encodeRune, e]
  · simp only [Lib.encodeRune, e, u8s, List.map_map]
    apply List.map_congr_left
    intro x hx
    have := hl x hx
    simp [Function.comp]
    omega
theorem u8w {x : Int} (a : 0 ≤ x) (b : x ≤ 255) : IntKind.u8.wrap x = x := by simp [IntKind.wrap, IntKind.bits, IntKind.signed]; omega
theorem i32w {x : Int} (a : 0 ≤ x) (b : x ≤ 1114111) : IntKind.i32.wrap x = x := by simp [IntKind.wrap, IntKind.bits, IntKind.signed]; omega
theorem i64w {x : Int} (a : -4611686018427387904 ≤ x) (b : x ≤ 4611686018427387904) : IntKind.i64.wrap x = x := by rw [IntKind.wrap_i64] <;> omega
end Go.Proofs.YtfpbboldfilhlaaDoor
