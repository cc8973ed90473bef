/-
  Contracts of the laws' helpers at layouts: size, copy, comparison. Conditions: bounds on lengths.
-/
import Derived.Test.YtepamcfaiahmbaaDoorPartS
namespace Go.Proofs.YtepamcfaiahmbaaDoor
open Go.ChangeShapes Go.WideShapes Go.ChangeAt Go.RowKit
set_option linter.unusedVariables false
set_option linter.unusedSimpArgs false
set_option maxRecDepth 100000

theorem Mine.set_oth {B : Nat} {w : World} {a : Option Addr} {xs : List Value} (h : Mine B w a xs) {p : Addr} (hp : p.block < B) (v : Value) : Mine B (w.setCell p v) a xs := by
  rcases h with h | ⟨b, off, e, hB, h⟩
  · exact .inl h
  · refine .inr ⟨b, off, e, hB, fun i hi => ?_⟩
    have hne : p ≠ ⟨b, off + i, none⟩ := by intro h2; subst h2; exact absurd hp (Nat.not_lt.2 hB)
    rw [World.cell?_setCell_other _ _ _ _ hne, World.frozen?_setCell]
    exact h i hi
theorem szLayout_any (ao : Option Addr) (n c : Nat) (w : World) (hn : n ≤ maxLen) :
    Calls Tryd.prog 5 #[.agg #[.slice ao n c], .int .i64 1048576] w fun e w' => ∃ r : Int, e = .returned (.int .i64 r) ∧ (0 ≤ r → n ≤ 1048576) ∧ Below w.heap.size w w' := by
  have HB : Hid (Below w.heap.size w (w.alloc (.cells #[.slice ao n c] 24))) := (Below.refl _ _).alloc (Nat.le_refl _) _
  go_enter Tryd.func5, Tryd.ntmps5
  go_wp2_with fail
  refine (szPartS_any ao n c _ _ hn (by omega) (by omega)).mono ?_
  rintro e w1 ⟨r, rfl, hr, hr1, hr2, rfl⟩
  have HR := Lib.hid hr
  clear hr
  rcases Int.lt_or_le r 0 with hneg | hpos
  · go_wp2
    go_ret
    exact ⟨_, rfl, by intro h; exact absurd h (by decide), HB.out⟩
  · go_wp2
    go_ret
    exact ⟨_, rfl, fun h => (HR.out h).1, HB.out⟩
theorem eqLayout_same (a b : Option Addr) (n c c' : Nat) (l : List PartV) (w : World) (ha : At w a (partsV l)) (hb : At w b (partsV l)) (hl : l.length = n) (hn : n ≤ 16777216) :
    Calls Tryd.prog 9 #[.agg #[.slice a n c], .agg #[.slice b n c']] w fun e w' => e = .returned (.bool true) ∧ Below w.heap.size w w' := by
  have HB : Hid (Below w.heap.size w ((w.alloc (.cells #[.slice a n c] 30)).alloc (.cells #[.slice b n c'] 30))) := ((Below.refl _ _).alloc (Nat.le_refl _) _).alloc (by simp) _
  have HA := Lib.hid (ha.below HB.out (Nat.le_refl _))
  have HC := Lib.hid (hb.below HB.out (Nat.le_refl _))
  have HL := Lib.hid hl
  clear ha hb hl
  go_enter Tryd.func9, Tryd.ntmps9
  go_wp2_with fail
  refine (eqPartS_same a b n c c' l _ HA.out HC.out HL.out hn).mono ?_
  rintro e w1 ⟨rfl, hb1⟩
  have HB1 : Hid (Below w.heap.size w w1) := HB.out.trans (hb1.mono (by simp <;> omega))
  clear hb1
  go_wp2
  go_ret
  exact ⟨rfl, HB1.out⟩
set_option maxHeartbeats 1000000 in
theorem toLayout_any (a : Option Addr) (n c : Nat) (l : List PartV) (w : World) (ha : At w a (partsV l)) (hl : l.length = n) (hn : n ≤ 1048576) :
    Calls Tryd.prog 7 #[.agg #[.slice a n c]] w fun e w' => ∃ ao cap, e = .returned (.agg #[.slice ao n cap]) ∧ n ≤ cap ∧ Mine w.heap.size w' ao (partsV l) ∧ Below w.heap.size w w' := by
  have HV : Hid (Below w.heap.size w (((w.alloc (.cells #[.slice a n c] 24)).alloc (.cells #[.slice none 0 0] 30)).alloc (.cells #[.slice none 0 0] 30))) := (((Below.refl _ _).alloc (Nat.le_refl _) _).alloc (by simp) _).alloc (by simp; omega) _
  have HA := Lib.hid (ha.below HV.out (Nat.le_refl _))
  have HL := Lib.hid hl
  have G1 : Hid ((((w.alloc (.cells #[.slice a n c] 24)).alloc (.cells #[.slice none 0 0] 30)).alloc (.cells #[.slice none 0 0] 30)).heap[w.heap.size + 1]? = some (.cells #[.slice none 0 0] 30 (0, 0))) := by
    show _ = _
    rw [Below.heap_alloc _ _ _ (by simp)]
    have := heap_alloc_new (w.alloc (.cells #[.slice a n c] 24)) (.cells #[.slice none 0 0] 30)
    rwa [World.size_alloc] at this
  have G2 : Hid ((((w.alloc (.cells #[.slice a n c] 24)).alloc (.cells #[.slice none 0 0] 30)).alloc (.cells #[.slice none 0 0] 30)).heap[w.heap.size + 2]? = some (.cells #[.slice none 0 0] 30 (0, 0))) := by
    show _ = _
    have := heap_alloc_new ((w.alloc (.cells #[.slice a n c] 24)).alloc (.cells #[.slice none 0 0] 30)) (.cells #[.slice none 0 0] 30)
    rwa [World.size_alloc, World.size_alloc] at this
  have hsz : (((w.alloc (.cells #[.slice a n c] 24)).alloc (.cells #[.slice none 0 0] 30)).alloc (.cells #[.slice none 0 0] 30)).heap.size = w.heap.size + 3 := by simp
  have HZ := Lib.hid hsz
  clear ha hl hsz
  go_enter Tryd.func7, Tryd.ntmps7
  go_wp2_with fail
  refine (toPartS_any a n c l _ HA.out HL.out hn).mono ?_
  generalize (((w.alloc (.cells #[.slice a n c] 24)).alloc (.cells #[.slice none 0 0] 30)).alloc (.cells #[.slice none 0 0] 30)) = V at *
  rintro e w1 ⟨a1, c1, rfl, hcap, hm, hb⟩
  have X1 := Lib.hid (box_below G1.out hb (by rw [HZ.out]; omega))
  have X2 := Lib.hid (box_below G2.out hb (by rw [HZ.out]; omega))
  have HB1 : Hid (Below w.heap.size w w1) := HV.out.trans (hb.mono (by rw [HZ.out]; omega))
  have HM : Hid (Mine (w.heap.size + 3) w1 a1 (partsV l)) := by have := hm; rw [HZ.out] at this; exact this
  have hz1 : w.heap.size + 3 ≤ w1.heap.size := by have := hb.size; rw [HZ.out] at this; exact this
  have x1 := box_cells X1.out 0
  have x2 := box_cells X2.out 0
  have f1 := box_free X1.out 0
  have f2 := box_free X2.out 0
  simp at x1 x2
  clear hm hb HA HV G1 G2 HZ
  go_wp2
  refine bodyPost_ret (v := .agg #[.slice a1 n c1]) (by simp [results, Tryd.results7, x1, go_sem]) rfl ⟨a1, c1, rfl, hcap, ?_, ?_⟩
  · exact ((HM.out.set_oth (by dsimp only; omega) _).set_oth (by dsimp only; omega) _).mono (by omega)
  · exact (HB1.out.setCell (by dsimp only; omega) _).setCell (by dsimp only; omega) _
end Go.Proofs.YtepamcfaiahmbaaDoor
