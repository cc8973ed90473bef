/-
  Contract of the given program's feed at a text of letters, for a blank screen and the first parser. Conditions: bounds.
-/
import Derived.Test.YtfpbboldfilhlaaDoorApLetter
import Derived.Test.YtfpbboldfilhlaaDoorClone
namespace Go.Proofs.YtfpbboldfilhlaaDoor
open Go.ChangeShapes Go.WideShapes Go.ChangeAt Go.RowKit
set_option linter.unusedVariables false
set_option linter.unusedSimpArgs false
set_option maxRecDepth 100000
theorem Kept.grown {b gC : Nat} {ao : Option Addr} {cap : Nat} {w w1 w2 : World} {row : Option Nat} (h : Kept b gC ao cap w w1) (hg : w1.grownBy w2 row) (hr : ∀ k, row = some k → w.heap.size ≤ k) : Kept b gC ao cap w w2 :=
  ⟨hg.os.trans h.os, hg.tape.trans h.tape, hg.output.trans h.output, Nat.le_trans h.size hg.size, fun k hk h1 h2 h3 => (hg.block k (Nat.lt_of_lt_of_le hk h.size) (fun e => by have := hr k e.symm; omega)).trans (h.block k hk h1 h2 h3)⟩
/-- the state between two letters: w0: the world at the beginning, a, c: the list's row -/
structure FS (ty tA : TypeId) (B b gC oC capC : Nat) (T : List UInt8) (W H k : Nat) (ao : Option Addr) (cap : Nat) (w0 : World) (a : Option Addr) (c : Nat) (w : World) : Prop where
  e : ∃ ao1 cap1, StW ty B b gC oC capC T W H k ao1 cap1 w ∧ Kept b gC ao cap w0 w ∧ NewH ao cap w0 ao1 cap1 ∧ ∀ j o, a = some ⟨j, o, none⟩ → ¬ foot ao1 cap1 j
  own : w.ownsRow w0.heap.size tA 5 (.slice a 0 c) 0 []
  lb : b < w0.heap.size
  lg : gC < w0.heap.size
section
variable {ty tA : TypeId} {B b gC oC capC : Nat} {T : List UInt8} {W H k : Nat} {ao : Option Addr} {cap : Nat} {w0 w w1 w2 : World} {a : Option Addr} {c : Nat}
theorem StW.lts (h : StW ty B b gC oC capC T W H k ao cap w) : b < w.heap.size ∧ gC < w.heap.size := by
  obtain ⟨r, x, g, y, _, _, _, _, hs⟩ := h
  exact ⟨hs.lt, hs.glt⟩
theorem StW.ft (h : StW ty B b gC oC capC T W H k ao cap w) {j : Nat} (hj : foot ao cap j) : j < w.heap.size := by
  obtain ⟨r, x, g, y, _, _, _, _, hs⟩ := h
  exact (hs.h.ft hj).2.2.2
theorem FS.first (h : StW ty B b gC oC capC T W H 0 ao cap w) : FS ty tA B b gC oC capC T W H 0 ao cap w none 0 w :=
  ⟨⟨ao, cap, h, Kept.refl _ _ _ _ _, NewH.refl _ _ _, fun j o e => by cases e⟩, World.ownsRow_nil _ _ _ _, h.lts.1, h.lts.2⟩
theorem FS.drew (h : FS ty tA B b gC oC capC T W H k ao cap w0 a c w) : FS ty tA B b gC oC capC T W H k ao cap w0 a c w.drew := by
  obtain ⟨⟨ao1, cap1, h1, h2, h3, h4⟩, h5, h6, h7⟩ := h
  exact ⟨⟨ao1, cap1, h1.map fun _ _ _ => rfl, h2.drew, h3, h4⟩, h5, h6, h7⟩
/-- an action is laid into the list -/
theorem FS.list (h : FS ty tA B b gC oC capC T W H k ao cap w0 a c w) {g cap2 n : Nat} {xs : List Value} (ho : w1.ownsRow w0.heap.size tA 5 (.slice (some ⟨g, 0, none⟩) n cap2) n xs) (hg : w.grownBy w1 (Value.slice a 0 c).ownBlock) (hl : (Value.slice a 0 c).ownBlock = some g ∨ w.heap.size ≤ g) :
    FS ty tA B b gC oC capC T W H k ao cap w0 (some ⟨g, 0, none⟩) cap2 w1 := by
  obtain ⟨⟨ao1, cap1, h1, h2, h3, h4⟩, h5, h6, h7⟩ := h
  have hrow : ∀ j, (Value.slice a 0 c).ownBlock = some j → w0.heap.size ≤ j ∧ ¬ foot ao1 cap1 j := by
    intro j hj
    refine ⟨(h5.lt j hj).1, ?_⟩
    rcases h5.2 with ⟨hv, _⟩ | ⟨g', cap', cur, hv, _⟩
    · cases hv; cases hj
    · cases hv
      cases hj
      exact h4 _ _ rfl
  refine ⟨⟨ao1, cap1, h1.map (fun j hj hjj => hg.block j hj fun e => ?_), h2.grown hg (fun j e => (hrow j e).1), h3, fun j o e => ?_⟩, ?_, h6, h7⟩
  · obtain ⟨q1, q2⟩ := hrow j e.symm
    rcases hjj with rfl | rfl | hjj
    · omega
    · omega
    · exact q2 hjj
  · cases e
    rcases hl with hl | hl
    · exact (hrow _ hl).2
    · intro hf
      have := h1.ft hf
      omega
  · refine ⟨rfl, ?_⟩
    rcases ho.2 with ⟨hv, _⟩ | ⟨g', cap', cur, hv, e1, e2, e3, e4, e5, e6⟩
    · cases hv
    · cases hv
      exact .inr ⟨g, cap2, cur, rfl, e1, e2, Nat.zero_le _, e4, e5, by simp⟩
/-- a block is laid -/
theorem FS.alloc (h : FS ty tA B b gC oC capC T W H k ao cap w0 a c w) (o : Obj) : FS ty tA B b gC oC capC T W H k ao cap w0 a c (w.alloc o) := by
  obtain ⟨⟨ao1, cap1, h1, h2, h3, h4⟩, h5, h6, h7⟩ := h
  exact ⟨⟨ao1, cap1, h1.map fun j hj _ => heap_alloc_old w o hj, h2.alloc o, h3, h4⟩, h5.alloc o, h6, h7⟩
/-- a letter is put -/
theorem FS.next (h : FS ty tA B b gC oC capC T W H k ao cap w0 a c w) {ao1 ao2 : Option Addr} {cap1 cap2 k2 : Nat} (h1 : StW ty B b gC oC capC T W H k ao1 cap1 w) (h2 : Kept b gC ao cap w0 w) (h3 : NewH ao cap w0 ao1 cap1) (h4 : ∀ j o, a = some ⟨j, o, none⟩ → ¬ foot ao1 cap1 j)
    (k1 : StW ty B b gC oC capC T W H k2 ao2 cap2 w2) (kk : Kept b gC ao1 cap1 w w2) (kn : NewH ao1 cap1 w ao2 cap2) : FS ty tA B b gC oC capC T W H k2 ao cap w0 a c w2 := by
  obtain ⟨_, h5, h6, h7⟩ := h
  refine ⟨⟨ao2, cap2, k1, h2.trans h3 kk, NewH.trans h3 h2.size kn, fun j o e hf => ?_⟩, ⟨rfl, ?_⟩, h6, h7⟩
  · rcases kn j hf with h | h
    · exact h4 j o e h
    · rcases h5.2 with ⟨hv, _⟩ | ⟨g', cap', cur, hv, e1, e2, _⟩
      · cases hv; cases e
      · cases hv; cases e
        have := box_lt e2
        omega
  · rcases h5.2 with hv | ⟨g', cap', cur, hv, e1, e2, e3, e4, e5, e6⟩
    · exact .inl hv
    · cases hv
      refine .inr ⟨g', _, cur, rfl, e1, ?_, e3, e4, e5, e6⟩
      rw [kk.block g' (box_lt e2) (by omega) (by omega) (h4 _ _ rfl)]
      exact e2
end
theorem own_act {w : World} {B e g n c : Nat} {xs : List Value} (h : w.ownsRow B e 5 (.slice (some ⟨g, 0, none⟩) n c) n xs) {j : Nat} {u : Value} (hj : xs[j]? = some u) : w.cell? ⟨g, j, none⟩ = some u := by
  rcases h.2 with ⟨hv, _⟩ | ⟨g', cap', cur, hv, e1, e2, e3, e4, e5, e6⟩
  · cases hv
  · cases hv
    rw [box_cells e2, ← hj, ← e6]
    have hl : j < xs.length := (List.getElem?_eq_some_iff.1 hj).1
    rw [h.1] at hl
    rw [List.getElem?_take_of_lt hl]; simp
attribute [local irreducible] wpList
set_option maxHeartbeats 4000000 in
theorem feed_any {B b gC oC capC q : Nat} {ao : Option Addr} {cap : Nat} {W H : Nat} {w : World} (T : ByteArray) (hT : okT T.data.toList) (w0 : 2 ≤ W) (w1 : W ≤ 24) (h0 : 2 ≤ H) (h1 : H ≤ 10) (hn : T.data.toList.length ≤ W * (H + 3))
    (h : StW 27 B b gC oC capC T.data.toList W H 0 ao cap w) (hq : w.cell? ⟨q, 0, none⟩ = some (.int .i64 0)) (hqb : q ≠ b) (hqg : q ≠ gC) (hqf : ¬ foot ao cap q) :
    Calls Tryd.prog 16 #[.pointer (some ⟨b, 0, none⟩), .pointer (some ⟨q, 0, none⟩), .string T] w
      fun e w' => e = .returned (.tuple #[]) ∧ ∃ ao' cap', StW 27 B b gC oC capC T.data.toList W H T.size ao' cap' w' ∧ Kept b gC ao cap w w' ∧ NewH ao cap w ao' cap' := by
  have HF0 : Hid (FS 27 67 B b gC oC capC T.data.toList W H 0 ao cap w none 0 w) := FS.first h
  have HQ : Hid (∀ k a c wx, FS 27 67 B b gC oC capC T.data.toList W H k ao cap w a c wx → wx.cell? ⟨q, 0, none⟩ = some (.int .i64 0)) := fun k a c wx hx => by
    obtain ⟨⟨ao1, cap1, x1, x2, x3, x4⟩, x5, x6, x7⟩ := hx
    have := x2.block q (World.block_lt_of_cell? w _ hq) hqb hqg hqf
    rw [World.cell?_of_block (w := w) (a := ⟨q, 0, none⟩) this]; exact hq
  have HT := Lib.hid hT
  have hTn : T.size ≤ 312 := by
    have e : T.data.toList.length = T.size := by simp
    have : W * (H + 3) ≤ 24 * 13 := Nat.mul_le_mul w1 (by omega)
    omega
  have HN := Lib.hid hn
  clear h hq hT hn
  go_enter Tryd.func16, Tryd.ntmps16
  go_wp2_with fail
  go_loopw [6, 12] (fun lv i wr => ∃ k : Nat, k ≤ T.size ∧ i = .int .i64 k ∧ ∃ a m c, lv = .slice a m c ∧ Hid (FS 27 67 B b gC oC capC T.data.toList W H k ao cap w a c wr)) (fun _ i _ => T.size - (intOf i).toNat)
  case atStart => exact ⟨0, Nat.zero_le _, rfl, none, 0, 0, rfl, HF0⟩
  case round =>
    obtain ⟨k, hk, rfl, a, m, c, rfl, HF⟩ := hrel
    clear HF0
    rename World => wr
    by_cases hkt : k < T.size
    · have hb := HT.out.get (k := k) (by simpa using hkt)
      have eb : (T.data.toList.getD k 0).toNat = (T[k]'hkt).toNat := by
        rw [List.getD_eq_getElem?_getD, List.getElem?_eq_getElem (by simpa using hkt)]; rfl
      rw [eb] at hb
      obtain ⟨hb1, hb2⟩ := hb
      have HEB := Lib.hid eb
      clear eb
      obtain ⟨n, hbn⟩ : ∃ n, (T[k]'hkt).toNat = n := ⟨_, rfl⟩
      rw [hbn] at hb1 hb2 HEB
      go_wp2_with fail
      go_region_with (go_at_call 33; (refine (parse_any q n w.heap.size (.slice a 0 c) _ (HQ.out k a c _ HF.out.drew) HF.out.drew.own ?_ hb1 hb2).mono ?_); (exact HF.out.e.choose_spec.choose_spec.2.1.size); rintro e wp ⟨g, c2, rfl, ho, hg, hl⟩; have HP := Lib.hid (HF.out.drew.list ho hg hl); have HO := Lib.hid ho)
      clear HF
      have c0 := own_act HO.out (j := 0) (u := .int .i64 1) rfl
      have c1 := own_act HO.out (j := 1) (u := .int .i64 (n : Int)) rfl
      have c3 := own_act HO.out (j := 2) (u := .bool false) rfl
      have c4 := own_act HO.out (j := 3) (u := .slice none 0 0) rfl
      have c5 := own_act HO.out (j := 4) (u := .string ⟨#[]⟩) rfl
      clear HO ho
      go_wp2_with fail
      go_loopw [24] (fun j wx => (j = .int .i64 0 ∧ wx = wp) ∨ (j = .int .i64 1 ∧ Hid (FS 27 67 B b gC oC capC T.data.toList W H (k + 1) ao cap w (some ⟨g, 0, none⟩) c2 wx))) (fun j _ => 1 - (intOf j).toNat)
      case atStart => exact .inl ⟨rfl, rfl⟩
      case round =>
        rcases hrel with ⟨rfl, rfl⟩ | ⟨rfl, HP1⟩
        · go_wp2_with fail
          have hpa := HP.out.alloc (.cells #[.int .i64 1, .int .i64 (n : Int), .bool false, .slice none 0 0, .string ⟨#[]⟩] 67)
          obtain ⟨ao1, cap1, x1, x2, x3, x4⟩ := hpa.e
          have hap := apply_letter HT.out w0 w1 h0 h1 (by simpa using hkt) HN.out x1
          rw [HEB.out] at hap
          refine hap.mono ?_
          rintro e w2 ⟨rfl, ao2, cap2', y1, y2, y3⟩
          have HP1 := Lib.hid (hpa.next x1 x2 x3 x4 y1 y2 y3)
          clear hpa x1 x2 x3 x4 hap y1 y2 y3 c0 c1 c3 c4 c5 HP
          go_wp2
          go_roundw
          case rel => exact .inr ⟨rfl, HP1⟩
          case measure => simp [intOf]
        · clear HP c0 c1 c3 c4 c5
          go_wp2
          go_roundw
          case rel => exact ⟨k + 1, by omega, by go_num, some ⟨g, 0, none⟩, 1, c2, rfl, HP1⟩
          case measure => simp [intOf] <;> omega
    · have hkT : k = T.size := by omega
      go_wp2
      go_end0
      obtain ⟨ao1, cap1, x1, x2, x3, x4⟩ := HF.out.e
      subst hkT
      exact ⟨rfl, ao1, cap1, x1, x2, x3⟩
end Go.Proofs.YtfpbboldfilhlaaDoor
