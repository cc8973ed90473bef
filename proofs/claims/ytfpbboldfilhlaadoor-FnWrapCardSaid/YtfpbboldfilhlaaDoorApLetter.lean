/-
  Contract of the given program's apply at a letter, for a screen on which letters of a text stand. Conditions: bounds.
-/
import Derived.Test.YtfpbboldfilhlaaDoorApPrint
import Derived.Test.YtfpbboldfilhlaaDoorWrapP
import Derived.Test.YtfpbboldfilhlaaDoorGround
namespace Go.Proofs.YtfpbboldfilhlaaDoor
open Go.ChangeShapes Go.WideShapes Go.ChangeAt Go.RowKit
set_option linter.unusedVariables false
set_option linter.unusedSimpArgs false
/-- the numbers of a blank screen whose cursor went -/
def scX (W H x y : Nat) : Sc := ⟨W, H, x, y, 0, 0, H - 1, 0, 0, ⟨#[]⟩⟩
/-- a screen on which k letters of T stand -/
def StW (ty : TypeId) (B b gC oC capC : Nat) (T : List UInt8) (W H k : Nat) (ao : Option Addr) (cap : Nat) (w : World) : Prop :=
  ∃ r x g y, Put T W r x k ∧ g + y = r ∧ y < H ∧ g = r + 1 - H ∧ ScrAt ty B b gC oC capC ao cap (scX W H x y) (gridR T W H g k) (histR T W g) w
theorem StW.map {ty : TypeId} {B b gC oC capC : Nat} {T : List UInt8} {W H k : Nat} {ao : Option Addr} {cap : Nat} {w w' : World} (h : StW ty B b gC oC capC T W H k ao cap w)
    (hb : ∀ j, j < w.heap.size → j = b ∨ j = gC ∨ foot ao cap j → w'.heap[j]? = w.heap[j]?) : StW ty B b gC oC capC T W H k ao cap w' := by
  obtain ⟨r, x, g, y, h1, h2, h3, h4, h5⟩ := h
  exact ⟨r, x, g, y, h1, h2, h3, h4, h5.keep (hb b h5.lt (.inl rfl)) (hb gC h5.glt (.inr (.inl rfl))) fun j hj => hb j (h5.h.ft hj).2.2.2 (.inr (.inr hj))⟩
theorem histR_size {T : List UInt8} {W g : Nat} (hW : W ≤ 24) : ∀ t ∈ histR T W g, t.size ≤ 96 := by
  intro t ht
  obtain ⟨r, _, rfl⟩ := List.mem_map.1 ht
  show (textR T W r).toArray.size ≤ 96
  rw [List.size_toArray, textR, List.length_take]; omega
theorem ok_grid {T : List UInt8} (hT : okT T) {W H g k : Nat} (w0 : 2 ≤ W) (w1 : W ≤ 24) (h0 : 2 ≤ H) (h1 : H ≤ 10) (hk : k ≤ T.length) (hg : g ≤ 6) : Ok W H (gridR T W H g k) (histR T W g) :=
  ⟨w0, w1, h0, h1, length_gridR _ _ _ _ _, gridR_ok hT hk, by rw [length_histR]; exact hg, histR_size w1⟩
theorem up_grid {T : List UInt8} (hT : okT T) {W H g k : Nat} (h0 : 2 ≤ H) (hg : g ≤ 5) (hk : k ≤ T.length) (h1 : (g + 1) * W ≤ k) (h2 : k ≤ (g + H) * W) :
    upN W 0 (H - 1) true 1 (gridR T W H g k) (histR T W g) = (gridR T W H (g + 1) k, histR T W (g + 1)) := by
  show (upC W 0 (H - 1) (gridR T W H g k), if (0 : Nat) = 0 ∧ true = true then pushH (histR T W g) (rowBt (gridR T W H g k) W) else histR T W g) = _
  rw [if_pos ⟨rfl, rfl⟩, gridR_up (by omega) h2, pushH, length_histR, if_neg (by omega), histR_succ]
  have e : rowTx (gridR T W H g k) W 0 = textR T W g := by rw [rowTx_grid hT hk (by omega), Nat.add_zero, textR_take h1]
  rw [rowBt, e]
theorem apply_letter {B b gC oC capC : Nat} {ao : Option Addr} {cap : Nat} {T : List UInt8} {W H k : Nat} {w : World} (hT : okT T) (w0 : 2 ≤ W) (w1 : W ≤ 24) (h0 : 2 ≤ H) (h1 : H ≤ 10) (hk : k < T.length) (hn : T.length ≤ W * (H + 3))
    (h : StW 27 B b gC oC capC T W H k ao cap w) :
    Calls Tryd.prog 34 #[.pointer (some ⟨b, 0, none⟩), .agg #[.int .i64 1, .int .i64 ((T.getD k 0).toNat : Int), .bool false, .slice none 0 0, .string ⟨#[]⟩]] w
      fun e w' => e = .returned (.tuple #[]) ∧ ∃ ao' cap', StW 27 B b gC oC capC T W H (k + 1) ao' cap' w' ∧ Kept b gC ao cap w w' ∧ NewH ao cap w ao' cap' := by
  obtain ⟨r, x, g, y, p, hr, hy, hg, hs⟩ := h
  obtain ⟨l1, l2⟩ := hT.get hk
  have e1 : (g + y) * W = g * W + y * W := Nat.add_mul _ _ _
  have e2 : (y + 1) * W = y * W + W := Nat.succ_mul _ _
  have e3 : (y + 1) * W ≤ H * W := Nat.mul_le_mul_right _ hy
  have e4 : H * W = W * H := Nat.mul_comm _ _
  have hr3 : r < H + 3 := by
    rcases Nat.lt_or_ge r (H + 3) with h | h
    · exact h
    · exfalso
      have q1 : W * (H + 3) ≤ W * r := Nat.mul_le_mul_left _ h
      have q2 : W * r = r * W := Nat.mul_comm _ _
      have q3 := p.eq
      omega
  have hpe := p.eq
  rw [← hr, e1] at hpe
  by_cases hx : x < W
  · refine (print_now (T.getD k 0).toNat hs (ok_grid hT w0 w1 h0 h1 p.kl (by omega)) hx hy (by omega) (by show (0:Nat) ≤ 127; omega)).mono ?_
    rintro e w' ⟨he, ao', cap', hs', hk', hn'⟩
    refine ⟨he, ao', cap', ⟨r, x + 1, g, y, ⟨by have := p.eq; omega, hx, .inr (by omega), hk⟩, hr, hy, hg, ?_⟩, hk', hn'⟩
    have e := gridR_put (T := T) (W := W) (H := H) (g := g) (k := k) (i0 := y * W + x) (by omega) (by omega)
    rw [← e]
    exact hs'
  · obtain rfl : x = W := by have := p.x1; omega
    by_cases hb : y + 1 < H
    · refine (print_wrap (T.getD k 0).toNat (y + 1) _ _ hs (ok_grid hT w0 w1 h0 h1 p.kl (by omega)) hb w0 w1 (by omega) (by show (0:Nat) ≤ 127; omega) (fun w1 h1' => down_step h1' hb (by omega) (by show y ≠ H - 1; omega))).mono ?_
      rintro e w' ⟨he, ao', cap', hs', hk', hn'⟩
      refine ⟨he, ao', cap', ⟨r + 1, 1, g, y + 1, ⟨by have := p.eq; rw [Nat.succ_mul]; omega, by omega, .inr (by omega), hk⟩, by omega, hb, by omega, ?_⟩, hk', hn'⟩
      have e := gridR_put (T := T) (W := x) (H := H) (g := g) (k := k) (i0 := (y + 1) * x + 0) (by omega) (by have := Nat.mul_le_mul_right x hb; have := Nat.succ_mul (y + 1) x; omega)
      rw [← e]
      exact hs'
    · have hyH : y = H - 1 := by omega
      have hgr : (g + 1) * x = g * x + x := Nat.succ_mul _ _
      have hgH : (g + H) * x = g * x + H * x := Nat.add_mul _ _ _
      have hyx : (y + 1) * x = H * x := by congr 1; omega
      have hup := up_grid hT (W := x) (H := H) (g := g) (k := k) h0 (by omega) p.kl (by omega) (by omega)
      refine (print_wrap (T.getD k 0).toNat y (gridR T x H (g + 1) k) (histR T x (g + 1)) hs (ok_grid hT w0 w1 h0 h1 p.kl (by omega)) hy w0 w1 (by omega) (by show (0:Nat) ≤ 127; omega) (fun w1 h1' => ?_)).mono ?_
      · subst hyH
        have := down_roll h1' (ok_grid hT w0 (by assumption) h0 h1 p.kl (by omega)) (Nat.zero_le _) (by omega)
        rw [hup] at this
        exact this
      rintro e w' ⟨he, ao', cap', hs', hk', hn'⟩
      refine ⟨he, ao', cap', ⟨r + 1, 1, g + 1, y, ⟨by have := p.eq; rw [Nat.succ_mul]; omega, by omega, .inr (by omega), hk⟩, by omega, hy, by omega, ?_⟩, hk', hn'⟩
      have e := gridR_put (T := T) (W := x) (H := H) (g := g + 1) (k := k) (i0 := y * x + 0) (by omega) (by omega)
      rw [← e]
      exact hs'
end Go.Proofs.YtfpbboldfilhlaaDoor
