/-
  Contracts: 'Builder.WriteRune' at a builder that the call has made; the reference's l03Utf. Conditions: the number is a rune, a bound on what is held.
-/
import Derived.Test.YtfflmmkkgcijgaaDoorRuneP
import Derived.Test.YtfflmmkkgcijgaaDoorBuilder
import Derived.Test.YtfflmmkkgcijgaaDoorShelf
import Derived.Test.YtfflmmkkgcijgaaDoorIn
import Derived.Lib.FrozenHead
namespace Go.Proofs.YtfflmmkkgcijgaaDoor
open Go.ChangeShapes Go.WideShapes Go.ChangeAt Go.RowKit
set_option linter.unusedVariables false
set_option linter.unusedSimpArgs false
set_option maxRecDepth 100000
/-- a builder (its row's head may be frozen) stays what it is while nothing below its block's end turns -/
theorem isBuilderF_below {T e : TypeId} {B b : Nat} {bs : List Value} {w w' : World} (h : Lib.IsBuilderF T e B b bs w) (hb : Below w.heap.size w w') : Lib.IsBuilderF T e B b bs w' := by
  have key : ∀ p, Lib.BuilderAtF T e B b p bs w → Lib.BuilderAtF T e B b p bs w' := fun p ⟨h1, v, h2, h3, h4⟩ =>
    ⟨h1, v, by rw [hb.block b (Array.getElem?_eq_some_iff.1 h2).1]; exact h2, h3.kept (row := none) ⟨hb.os, hb.tape, hb.output, hb.size, fun k hk _ => hb.block k hk⟩ (by cases hv : v.ownBlock <;> simp), h4⟩
  exact h.elim (fun h => .inl (key _ h)) (fun h => .inr (key _ h))
theorem copyCheckF_any (B b : Nat) (bs : List Value) (w : World) (h : Lib.IsBuilderF 73 5 B b bs w) :
    Calls Tryd.prog 58 #[.pointer (some ⟨b, 0, none⟩)] w fun e w' => e = .returned (.tuple #[]) ∧ (Lib.BuilderAtF 73 5 B b (.pointer (some ⟨b, 0, none⟩)) bs w' ∧ Below B w w') := by
  rcases h with h | h
  · refine (copyCheck_fresh b w h.cell0 h.shape h.frozen0).mono ?_
    rintro e w' ⟨rfl, rfl⟩
    exact ⟨rfl, h.used _, (Below.refl B w).setCell (p := ⟨b, 0, none⟩) h.1 _⟩
  · refine (copyCheck_used b w h.cell0).mono ?_
    rintro e w' ⟨rfl, rfl⟩
    exact ⟨rfl, h, Below.refl B _⟩
set_option maxHeartbeats 1000000 in
theorem writeRune_any (B b : Nat) (bs : List Value) (r : Int) (w : World) (hr0 : 0 ≤ r) (hr1 : r ≤ 1114111) (h : Lib.IsBuilderF 73 5 B b bs w) (hlen : bs.length + 4 ≤ 140737488355328) (hBw : B ≤ w.heap.size) :
    Calls Tryd.prog 45 #[.pointer (some ⟨b, 0, none⟩), .int .i32 r] w fun e w' => ∃ v, e = .returned v ∧ (Lib.IsBuilderF 73 5 B b (bs ++ Lib.runeCells r) w' ∧ Below B w w') := by
  have hk4 := Lib.runeCells_le r
  go_enter Tryd.func45, Tryd.ntmps45
  go_wp2_with (go_at_call 58; refine (copyCheckF_any B b bs _ h).mono ?_)
  rintro e w1 ⟨rfl, h1, hb1⟩
  obtain ⟨hB, v, hbk, hown, hne⟩ := h1
  obtain ⟨ao, cap, rfl⟩ : ∃ ao cap, v = .slice ao bs.length cap := by
    rcases hown.2 with ⟨hv, h0⟩ | ⟨g, cap, cur, fz, hv, _⟩
    · exact ⟨none, 0, by rw [hv, h0]⟩
    · exact ⟨_, _, hv⟩
  have c0 : w1.cell? ⟨b, 0, none⟩ = some (.pointer (some ⟨b, 0, none⟩)) := by rw [Lib.cell_of_heap hbk]; rfl
  have c1 : w1.cell? ⟨b, 1, none⟩ = some (.slice ao bs.length cap) := by rw [Lib.cell_of_heap hbk]; rfl
  have HO := Lib.hid hown
  have hz1 := hb1.size
  go_wp2_with (go_at_call 59; refine (Tryd.utf8_AppendRune_row B _ bs.length bs r (by omega) (by omega) _ HO.out hlen (by omega)).mono ?_)
  rintro e w2 ⟨v', rfl, hown', o, hgrow⟩
  have hlt : b < w1.heap.size := (Array.getElem?_eq_some_iff.1 hbk).1
  have hgA : Below B w1 w2 := by
    have h0 : Below B w1 (w1.alloc o) := (Below.refl _ _).alloc (by omega) o
    exact h0.grown hgrow (by simp; omega) (fun k hk => (hown.lt k hk).1)
  have hb2 : w2.heap[b]? = some (.cells #[.pointer (some ⟨b, 0, none⟩), .slice ao bs.length cap] 73 (0, 0)) := by
    rw [hgrow.block b (by simp; omega) (fun e => hne e.symm), Below.heap_alloc _ _ _ hlt]
    exact hbk
  have d0 : w2.cell? ⟨b, 0, none⟩ = some (.pointer (some ⟨b, 0, none⟩)) := by rw [Lib.cell_of_heap hb2]; rfl
  have d1 : w2.cell? ⟨b, 1, none⟩ = some (.slice ao bs.length cap) := by rw [Lib.cell_of_heap hb2]; rfl
  have f1 : w2.frozen? ⟨b, 1, none⟩ = false := Lib.frozen_of_heap hb2 1
  obtain ⟨ao2, n', cap2, rfl⟩ : ∃ ao n' cap, v' = .slice ao n' cap := by
    rcases hown'.2 with ⟨hv, _⟩ | ⟨g, cap, cur, fz, hv, _⟩
    · exact ⟨_, _, _, hv⟩
    · exact ⟨_, _, _, hv⟩
  have HO2 := Lib.hid hown'
  have HB2 := Lib.hid hb2
  have HGA := Lib.hid (hb1.trans hgA)
  clear hown hown' hgrow hgA hb1 HO c0 c1 hbk hb2 hne
  go_wp2
  go_ret2
  refine ⟨_, rfl, .inr ?_, ?_⟩
  · exact Lib.BuilderAtF.put (T := 73) (e := 5) hB HB2.out (bs' := bs ++ Lib.runeCells r) (by simpa using HO2.out) (by decide)
  · exact HGA.out.setCell (p := ⟨b, 1, none⟩) hB _
/-- the conversion of bytes just laid to a string -/
theorem conv_bytes (l : List UInt8) (n : Nat) (hn : l.length = n) (W : World) (B : Nat) (cs : Array Value) (hcs : cs.toList = u8s l) (h : W.heap[B]? = some (.cells cs 5 (0, 0))) :
    (convert 71 9 (.slice (some ⟨B, 0, none⟩) n n)).run Tryd.prog W = .ok (.string ⟨l.toArray⟩) W := by
  have ha : At W (some ⟨B, 0, none⟩) (u8s l) := by
    have := at_block h
    rw [hcs] at this
    exact this
  exact conv_at 71 9 5 n n Tryd.underlying71 Tryd.underlying5 Tryd.underlying9 ha hn
attribute [local irreducible] wpList
/-- what the conversion of a rune's bytes gives -/
def UtfC (r : Int) (l : List Int) (en : List UInt8) : Prop := ∀ (W : World) (B : Nat), W.heap[B]? = some (.cells (l.map (Value.int .u8)).toArray 5 (0, 0)) →
      (convert 71 9 (.slice (some ⟨B, 0, none⟩) l.length l.length)).run Tryd.prog W = .ok (.string ⟨en.toArray⟩) W
theorem utfC_of (r : Int) (l : List Int) (e : Lib.encodeRuneZ r = l) : UtfC r l (Lib.encodeRune r) := by
  intro W B h
  have hl : ∀ x ∈ l, 0 ≤ x ∧ x < 256 := by rw [← e]; exact Lib.encodeRuneZ_byte r
  refine conv_bytes _ l.length ?_ W B _ ?_ h
  · simp [Lib.encodeRune, e]
  · simp only [Lib.encodeRune, e, u8s, List.map_map]
    apply List.map_congr_left
    intro x hx
    have := hl x hx
    simp [Function.comp]
    omega
theorem u8w {x : Int} (a : 0 ≤ x) (b : x ≤ 255) : IntKind.u8.wrap x = x := by simp [IntKind.wrap, IntKind.bits, IntKind.signed]; omega
theorem i32w {x : Int} (a : 0 ≤ x) (b : x ≤ 1114111) : IntKind.i32.wrap x = x := by simp [IntKind.wrap, IntKind.bits, IntKind.signed]; omega
theorem i64w {x : Int} (a : -4611686018427387904 ≤ x) (b : x ≤ 4611686018427387904) : IntKind.i64.wrap x = x := by rw [IntKind.wrap_i64] <;> omega
set_option maxHeartbeats 2000000 in
theorem l03Utf_one (r : Int) (h0 : 32 ≤ r) (h1 : r ≤ 127) (w : World) :
    Calls Tryd.prog 36 #[.int .i64 r] w fun e w' => e = .returned (.string ⟨(Lib.encodeRune r).toArray⟩) ∧ Below w.heap.size w w' := by
  have u0a := u8w (x := r) (by omega) (by omega)
  have HE : Hid (UtfC r [r] (Lib.encodeRune r)) := utfC_of r _ (by rw [Lib.encodeRuneZ_one (by omega) h1])
  generalize Lib.encodeRune r = en at *
  have c0 := HE.out (w.alloc (.cells #[.int .u8 (r)] 5)) w.heap.size (heap_alloc_new w _)
  simp only [List.length_cons, List.length_nil] at c0
  have HB : Hid (Below w.heap.size w (w.alloc (.cells #[.int .u8 (r)] 5))) := (Below.refl _ _).alloc (Nat.le_refl _) _
  clear HE
  go_enter Tryd.func36, Tryd.ntmps36
  go_wp2
  go_ret
  exact ⟨rfl, HB.out⟩
set_option maxHeartbeats 2000000 in
theorem l03Utf_two (r : Int) (h0 : 128 ≤ r) (h1 : r ≤ 2047) (w : World) :
    Calls Tryd.prog 36 #[.int .i64 r] w fun e w' => e = .returned (.string ⟨(Lib.encodeRune r).toArray⟩) ∧ Below w.heap.size w w' := by
  obtain ⟨q64, hq64⟩ : ∃ q, r / 64 = q := ⟨_, rfl⟩
  have d64 : r.tdiv 64 = q64 := by rw [Int.tdiv_eq_ediv_of_nonneg (by omega)]; exact hq64
  have w64 := i64w (x := q64) (by omega) (by omega)
  obtain ⟨m1, hm1⟩ : ∃ q, r % 64 = q := ⟨_, rfl⟩
  have e1 : r.tmod 64 = m1 := by rw [Int.tmod_eq_emod_of_nonneg (by omega)]; exact hm1
  have u0a := u8w (x := 192 + q64) (by omega) (by omega)
  have u0b := i64w (x := 192 + q64) (by omega) (by omega)
  have u1a := u8w (x := 128 + m1) (by omega) (by omega)
  have u1b := i64w (x := 128 + m1) (by omega) (by omega)
  have f1 := i64w (x := m1) (by omega) (by omega)
  have HE : Hid (UtfC r [192 + q64, 128 + m1] (Lib.encodeRune r)) := utfC_of r _ (by rw [Lib.encodeRuneZ_two h0 h1]; simp only [hq64, hm1])
  generalize Lib.encodeRune r = en at *
  have c0 := HE.out (w.alloc (.cells #[.int .u8 (192 + q64), .int .u8 (128 + m1)] 5)) w.heap.size (heap_alloc_new w _)
  simp only [List.length_cons, List.length_nil] at c0
  have HB : Hid (Below w.heap.size w (w.alloc (.cells #[.int .u8 (192 + q64), .int .u8 (128 + m1)] 5))) := (Below.refl _ _).alloc (Nat.le_refl _) _
  clear HE
  go_enter Tryd.func36, Tryd.ntmps36
  go_wp2
  go_ret
  exact ⟨rfl, HB.out⟩
set_option maxHeartbeats 2000000 in
theorem l03Utf_three (r : Int) (h0 : 2048 ≤ r) (h1 : r ≤ 65535) (h2 : ¬ (55296 ≤ r ∧ r ≤ 57343)) (w : World) :
    Calls Tryd.prog 36 #[.int .i64 r] w fun e w' => e = .returned (.string ⟨(Lib.encodeRune r).toArray⟩) ∧ Below w.heap.size w w' := by
  obtain ⟨q4096, hq4096⟩ : ∃ q, r / 4096 = q := ⟨_, rfl⟩
  have d4096 : r.tdiv 4096 = q4096 := by rw [Int.tdiv_eq_ediv_of_nonneg (by omega)]; exact hq4096
  have w4096 := i64w (x := q4096) (by omega) (by omega)
  obtain ⟨q64, hq64⟩ : ∃ q, r / 64 = q := ⟨_, rfl⟩
  have d64 : r.tdiv 64 = q64 := by rw [Int.tdiv_eq_ediv_of_nonneg (by omega)]; exact hq64
  have w64 := i64w (x := q64) (by omega) (by omega)
  obtain ⟨m1, hm1⟩ : ∃ q, r % 64 = q := ⟨_, rfl⟩
  have e1 : r.tmod 64 = m1 := by rw [Int.tmod_eq_emod_of_nonneg (by omega)]; exact hm1
  obtain ⟨m64, hm64⟩ : ∃ q, q64 % 64 = q := ⟨_, rfl⟩
  have e64 : q64.tmod 64 = m64 := by rw [Int.tmod_eq_emod_of_nonneg (by omega)]; exact hm64
  have f64 := i64w (x := m64) (by omega) (by omega)
  have u0a := u8w (x := 224 + q4096) (by omega) (by omega)
  have u0b := i64w (x := 224 + q4096) (by omega) (by omega)
  have u1a := u8w (x := 128 + m64) (by omega) (by omega)
  have u1b := i64w (x := 128 + m64) (by omega) (by omega)
  have u2a := u8w (x := 128 + m1) (by omega) (by omega)
  have u2b := i64w (x := 128 + m1) (by omega) (by omega)
  have f1 := i64w (x := m1) (by omega) (by omega)
  have HE : Hid (UtfC r [224 + q4096, 128 + m64, 128 + m1] (Lib.encodeRune r)) := utfC_of r _ (by rw [Lib.encodeRuneZ_three (by omega)]; simp only [hq4096, hq64, hm1, hm64])
  generalize Lib.encodeRune r = en at *
  have c0 := HE.out (w.alloc (.cells #[.int .u8 (224 + q4096), .int .u8 (128 + m64), .int .u8 (128 + m1)] 5)) w.heap.size (heap_alloc_new w _)
  simp only [List.length_cons, List.length_nil] at c0
  have HB : Hid (Below w.heap.size w (w.alloc (.cells #[.int .u8 (224 + q4096), .int .u8 (128 + m64), .int .u8 (128 + m1)] 5))) := (Below.refl _ _).alloc (Nat.le_refl _) _
  clear HE
  go_enter Tryd.func36, Tryd.ntmps36
  go_wp2
  go_ret
  exact ⟨rfl, HB.out⟩
set_option maxHeartbeats 2000000 in
theorem l03Utf_four (r : Int) (h0 : 65536 ≤ r) (h1 : r ≤ 1114111) (w : World) :
    Calls Tryd.prog 36 #[.int .i64 r] w fun e w' => e = .returned (.string ⟨(Lib.encodeRune r).toArray⟩) ∧ Below w.heap.size w w' := by
  obtain ⟨q262144, hq262144⟩ : ∃ q, r / 262144 = q := ⟨_, rfl⟩
  have d262144 : r.tdiv 262144 = q262144 := by rw [Int.tdiv_eq_ediv_of_nonneg (by omega)]; exact hq262144
  have w262144 := i64w (x := q262144) (by omega) (by omega)
  obtain ⟨q4096, hq4096⟩ : ∃ q, r / 4096 = q := ⟨_, rfl⟩
  have d4096 : r.tdiv 4096 = q4096 := by rw [Int.tdiv_eq_ediv_of_nonneg (by omega)]; exact hq4096
  have w4096 := i64w (x := q4096) (by omega) (by omega)
  obtain ⟨q64, hq64⟩ : ∃ q, r / 64 = q := ⟨_, rfl⟩
  have d64 : r.tdiv 64 = q64 := by rw [Int.tdiv_eq_ediv_of_nonneg (by omega)]; exact hq64
  have w64 := i64w (x := q64) (by omega) (by omega)
  obtain ⟨m1, hm1⟩ : ∃ q, r % 64 = q := ⟨_, rfl⟩
  have e1 : r.tmod 64 = m1 := by rw [Int.tmod_eq_emod_of_nonneg (by omega)]; exact hm1
  obtain ⟨m4096, hm4096⟩ : ∃ q, q4096 % 64 = q := ⟨_, rfl⟩
  have e4096 : q4096.tmod 64 = m4096 := by rw [Int.tmod_eq_emod_of_nonneg (by omega)]; exact hm4096
  have f4096 := i64w (x := m4096) (by omega) (by omega)
  obtain ⟨m64, hm64⟩ : ∃ q, q64 % 64 = q := ⟨_, rfl⟩
  have e64 : q64.tmod 64 = m64 := by rw [Int.tmod_eq_emod_of_nonneg (by omega)]; exact hm64
  have f64 := i64w (x := m64) (by omega) (by omega)
  have u0a := u8w (x := 240 + q262144) (by omega) (by omega)
  have u0b := i64w (x := 240 + q262144) (by omega) (by omega)
  have u1a := u8w (x := 128 + m4096) (by omega) (by omega)
  have u1b := i64w (x := 128 + m4096) (by omega) (by omega)
  have u2a := u8w (x := 128 + m64) (by omega) (by omega)
  have u2b := i64w (x := 128 + m64) (by omega) (by omega)
  have u3a := u8w (x := 128 + m1) (by omega) (by omega)
  have u3b := i64w (x := 128 + m1) (by omega) (by omega)
  have f1 := i64w (x := m1) (by omega) (by omega)
  have HE : Hid (UtfC r [240 + q262144, 128 + m4096, 128 + m64, 128 + m1] (Lib.encodeRune r)) := utfC_of r _ (by rw [Lib.encodeRuneZ_four h0 h1]; simp only [hq262144, hq4096, hq64, hm1, hm4096, hm64])
  generalize Lib.encodeRune r = en at *
  have c0 := HE.out (w.alloc (.cells #[.int .u8 (240 + q262144), .int .u8 (128 + m4096), .int .u8 (128 + m64), .int .u8 (128 + m1)] 5)) w.heap.size (heap_alloc_new w _)
  simp only [List.length_cons, List.length_nil] at c0
  have HB : Hid (Below w.heap.size w (w.alloc (.cells #[.int .u8 (240 + q262144), .int .u8 (128 + m4096), .int .u8 (128 + m64), .int .u8 (128 + m1)] 5))) := (Below.refl _ _).alloc (Nat.le_refl _) _
  clear HE
  go_enter Tryd.func36, Tryd.ntmps36
  go_wp2
  go_ret
  exact ⟨rfl, HB.out⟩
theorem l03Utf_any (r : Int) (h : okR r) (w : World) :
    Calls Tryd.prog 36 #[.int .i64 r] w fun e w' => e = .returned (.string ⟨(Lib.encodeRune r).toArray⟩) ∧ Below w.heap.size w w' := by
  obtain ⟨h1, h2, h3⟩ := h
  by_cases a : r ≤ 127
  · exact l03Utf_one r h1 a w
  · by_cases b : r ≤ 2047
    · exact l03Utf_two r (by omega) b w
    · by_cases c : r ≤ 65535
      · exact l03Utf_three r (by omega) c h3 w
      · exact l03Utf_four r (by omega) h2 w
end Go.Proofs.YtfflmmkkgcijgaaDoor
