/-
  Contract of the given program's text: a layout as text. Conditions: the tree lies so, its numbers are small, the library's table of powers stands in its variable.
-/
import Derived.Test.YtepamcfaiahmbaaDoorTextS
import Derived.Test.YtepamcfaiahmbaaDoorFitR
import Derived.Test.YtepamcfaiahmbaaDoorShelf
import Derived.Lib.LaidTab
import Derived.Lib.AppendIntMem
namespace Go.Proofs.YtepamcfaiahmbaaDoor
open Go.ChangeShapes Go.WideShapes Go.ChangeAt Go.RowKit
set_option linter.unusedVariables false
set_option linter.unusedSimpArgs false
set_option maxRecDepth 100000
def Pow (w : World) : Prop := Lib.TabIs Tryd.prog w "internal/strconv.uint64pow10" .u64 Lib.pow10Tab
theorem gPow : Tryd.prog.globalNamed "internal/strconv.uint64pow10" = some 0 := by kernel_rfl
theorem Pow.below {C : Nat} {w w' : World} (h : Pow w) (hb : Below C w w') (hC : w.heap.size ≤ C) : Pow w' := by
  unfold Pow Lib.TabIs World.var? at *
  rw [gPow] at *
  simp only [Option.bind_some] at *
  have hlt : 0 < w.heap.size := by
    rcases Nat.lt_or_ge 0 w.heap.size with h' | h'
    · exact h'
    · rw [Array.getElem?_eq_none h'] at h; cases h
  rw [hb.block 0 (by omega)]; exact h
theorem itoa_any (n : Nat) (w : World) (hw : Pow w) (hn : n ≤ 1000000) :
    Calls Tryd.prog 44 #[.int .i64 (n : Int)] w fun e w' => e = .returned (.string (numB n)) ∧ Below w.heap.size w w' := by
  refine (Tryd.strconv_Itoa (n : Int) (by omega) (by omega) w hw).mono ?_
  rintro e w' ⟨rfl, k, os, rfl⟩
  refine ⟨ret_str ?_, Lib.below_grow _ _ (Nat.le_refl _) _ _⟩
  unfold numB Lib.itoa
  rw [if_neg (by omega)]
  simp
attribute [local irreducible] wpList
set_option maxHeartbeats 4000000 in
theorem text_any : ∀ (t : Tr) (s : Sh) (w : World), Pow w → TreI w s t → t.num → t.leaves ≤ 1000 →
    Calls Tryd.prog 24 #[.pointer (some ⟨s.root, 0, none⟩)] w fun e w' => e = .returned (.string t.textB) ∧ Below w.heap.size w w' := by
  intro t
  induction t with
  | leaf p =>
    intro s w hg h hp hl
    obtain ⟨c, rfl, hc⟩ := TreG.leaf h
    obtain ⟨n, rfl⟩ : ∃ n : Nat, p = (n : Int) := ⟨p.toNat, by have := hp.1; omega⟩
    have x := box_cells hc
    have HD : Hid (∀ W, Pow W → Calls Tryd.prog 44 #[.int .i64 n] W fun e w' => e = .returned (.string (numB n)) ∧ Below W.heap.size W w') := fun W hw => itoa_any n W hw (by have := hp.2; omega)
    unfold areaLf at x
    have hq := bne_iff_ne.2 (show (n : Int) ≠ 0 by have := hp.1; omega)
    have HG := Lib.hid hg
    show Calls _ _ #[.pointer (some ⟨c, 0, none⟩)] _ fun e w' => e = .returned (.string (numB n)) ∧ _
    clear h hc hl hp hg
    go_enter Tryd.func24, Tryd.ntmps24
    go_wp2_with fail
    refine (HD.out _ HG.out).mono ?_
    rintro e w1 ⟨rfl, hb⟩
    go_wp2
    go_ret
    exact ⟨rfl, hb⟩
  | node rows size l r ihl ihr =>
    intro s w hg h hp hl
    obtain ⟨c, sl, sr, rfl, hc, h1, h2⟩ := TreG.node h
    obtain ⟨n, rfl⟩ : ∃ n : Nat, size = (n : Int) := ⟨size.toNat, by have := hp.1; omega⟩
    simp only [Tr.leaves] at hl
    have HD : Hid (∀ W, Pow W → Calls Tryd.prog 44 #[.int .i64 n] W fun e w' => e = .returned (.string (numB n)) ∧ Below W.heap.size W w') := fun W hw => itoa_any n W hw (by have := hp.2.1; omega)
    have HL : Hid (∀ W, Pow W → TreI W sl l → Calls Tryd.prog 24 #[.pointer (some ⟨sl.root, 0, none⟩)] W fun e w' => e = .returned (.string l.textB) ∧ Below W.heap.size W w') := fun W hw ht => ihl sl W hw ht hp.2.2.1 (by omega)
    have HR : Hid (∀ W, Pow W → TreI W sr r → Calls Tryd.prog 24 #[.pointer (some ⟨sr.root, 0, none⟩)] W fun e w' => e = .returned (.string r.textB) ∧ Below W.heap.size W w') := fun W hw ht => ihr sr W hw ht hp.2.2.2 (by omega)
    have z1 := Tr.text_size hp.2.2.1
    have z2 := Tr.text_size hp.2.2.2
    have z3 : (numB n).size ≤ 7 := numB_le (by have := hp.2.1; omega)
    have z4 : l.textB.size ≤ 20000 := by omega
    have z5 : r.textB.size ≤ 20000 := by omega
    have HT : Hid ((Tr.node rows (n : Int) l r).textB = opB ++ l.textB ++ markB rows ++ numB n ++ markB rows ++ r.textB ++ clB) := rfl
    have z6 : (markB rows).size = 1 := markB_size rows
    have hcw := box_lt hc
    have x0 := box_cells hc
    have HG := Lib.hid hg
    have X0 : Hid (w.heap[c]? = some (.cells (areaNd rows (n : Int) sl.root sr.root) 82 (0, 0))) := hc
    have H1 := Lib.hid h1
    have H2 := Lib.hid h2
    unfold areaNd at x0
    generalize (Tr.node rows (n : Int) l r).textB = tb at *
    generalize l.textB = lb at *
    generalize r.textB = rb at *
    generalize numB n = db at *
    generalize sl.root = gl at *
    generalize sr.root = gr at *
    show Calls _ _ #[.pointer (some ⟨c, 0, none⟩)] _ _
    clear h hc h1 h2 hl hp ihl ihr z1 z2 hg
    have t1 : ¬ (9223372036854775807 < 1 + lb.size) := by omega
    have t2 : ¬ (9223372036854775807 < 1 + lb.size + 1) := by omega
    have t3 : ¬ (9223372036854775807 < 1 + lb.size + 1 + db.size) := by omega
    have t4 : ¬ (9223372036854775807 < 1 + lb.size + 1 + db.size + 1) := by omega
    have t5 : ¬ (9223372036854775807 < 1 + lb.size + 1 + db.size + 1 + rb.size) := by omega
    have t6 : ¬ (9223372036854775807 < 1 + lb.size + 1 + db.size + 1 + rb.size + 1) := by omega
    clear z6
    cases hr : rows
    · rw [hr] at HT x0 X0
      clear hr
      unfold markB opB clB at *
      simp only [if_true, Bool.false_eq_true, if_false] at HT
      go_enter Tryd.func24, Tryd.ntmps24
      go_wp2_with fail
      go_region_held3 (fun w' => ∀ i, w'.cell? ⟨c, i, none⟩ = (#[.int .i64 0, .bool false, .int .i64 (n : Int), .pointer (some ⟨gl, 0, none⟩), .pointer (some ⟨gr, 0, none⟩)] : Array Value)[i]?) (first | with_reducible exact x3 | with_reducible exact x2 | with_reducible exact x1 | exact x0)
        (first
        | (have _nd := BB2; go_at_call 24; refine (HR.out w2 (HG.out.below BB2 (Nat.le_refl _)) (TreG.below H2.out BB2 (Nat.le_refl _))).mono ?_; rintro e w3 ⟨rfl, hb3⟩; have BB3 : Below w.heap.size w w3 := BB2.trans (hb3.mono BB2.size); have x3 := cells_below x2 hb3 (Nat.lt_of_lt_of_le hcw BB2.size))
        | (have _nd := BB1; go_at_call 44; refine (HD.out w1 (HG.out.below BB1 (Nat.le_refl _))).mono ?_; rintro e w2 ⟨rfl, hb2⟩; have BB2 : Below w.heap.size w w2 := BB1.trans (hb2.mono BB1.size); have x2 := cells_below x1 hb2 (Nat.lt_of_lt_of_le hcw BB1.size))
        | (go_at_call 24; refine (HL.out _ (HG.out.below ((Below.refl w.heap.size w).drew) (Nat.le_refl _)) (TreG.drew H1.out)).mono ?_; rintro e w1 ⟨rfl, hb1⟩; have hbd : Below w.heap.size w.drew w1 := hb1; have BB1 : Below w.heap.size w w1 := (Below.refl w.heap.size w).drew.trans hbd; have x1 := cells_below x0 BB1 hcw)
        | fail)
      all_goals
        go_wp2
        go_ret
        exact ⟨ret_str HT.out.symm, BB3⟩
    · rw [hr] at HT x0 X0
      clear hr
      unfold markB opB clB at *
      simp only [if_true, Bool.false_eq_true, if_false] at HT
      go_enter Tryd.func24, Tryd.ntmps24
      go_wp2_with fail
      go_region_held3 (fun w' => ∀ i, w'.cell? ⟨c, i, none⟩ = (#[.int .i64 0, .bool true, .int .i64 (n : Int), .pointer (some ⟨gl, 0, none⟩), .pointer (some ⟨gr, 0, none⟩)] : Array Value)[i]?) (first | with_reducible exact x3 | with_reducible exact x2 | with_reducible exact x1 | exact x0)
        (first
        | (have _nd := BB2; go_at_call 24; refine (HR.out w2 (HG.out.below BB2 (Nat.le_refl _)) (TreG.below H2.out BB2 (Nat.le_refl _))).mono ?_; rintro e w3 ⟨rfl, hb3⟩; have BB3 : Below w.heap.size w w3 := BB2.trans (hb3.mono BB2.size); have x3 := cells_below x2 hb3 (Nat.lt_of_lt_of_le hcw BB2.size))
        | (have _nd := BB1; go_at_call 44; refine (HD.out w1 (HG.out.below BB1 (Nat.le_refl _))).mono ?_; rintro e w2 ⟨rfl, hb2⟩; have BB2 : Below w.heap.size w w2 := BB1.trans (hb2.mono BB1.size); have x2 := cells_below x1 hb2 (Nat.lt_of_lt_of_le hcw BB1.size))
        | (go_at_call 24; refine (HL.out _ (HG.out.below ((Below.refl w.heap.size w).drew) (Nat.le_refl _)) (TreG.drew H1.out)).mono ?_; rintro e w1 ⟨rfl, hb1⟩; have hbd : Below w.heap.size w.drew w1 := hb1; have BB1 : Below w.heap.size w w1 := (Below.refl w.heap.size w).drew.trans hbd; have x1 := cells_below x0 BB1 hcw)
        | fail)
      all_goals
        go_wp2
        go_ret
        exact ⟨ret_str HT.out.symm, BB3⟩
end Go.Proofs.YtepamcfaiahmbaaDoor
