/-
  Contract of the reference's l05Text: a layout as text. Conditions: the tree lies so, its numbers are small.
-/
import Derived.Test.YtepamcfaiahmbaaDoorDigits
import Derived.Test.YtepamcfaiahmbaaDoorTreS
namespace Go.Proofs.YtepamcfaiahmbaaDoor
open Go.ChangeShapes Go.WideShapes Go.ChangeAt Go.RowKit
set_option linter.unusedVariables false
set_option linter.unusedSimpArgs false
set_option maxRecDepth 100000
def markB (rows : Bool) : ByteArray := if rows then ⟨#[45]⟩ else ⟨#[124]⟩
def opB : ByteArray := ⟨#[40]⟩
def clB : ByteArray := ⟨#[41]⟩
def Tr.textB : Tr → ByteArray
  | .leaf p => numB p.toNat
  | .node rows size l r => opB ++ l.textB ++ markB rows ++ numB size.toNat ++ markB rows ++ r.textB ++ clB
def Tr.num : Tr → Prop
  | .leaf p => 1 ≤ p ∧ p ≤ 1000
  | .node _ size l r => 1 ≤ size ∧ size ≤ 24 ∧ l.num ∧ r.num
theorem Tr.fits_num : ∀ {t : Tr} {w h : Int}, t.fits w h → w ≤ 24 → h ≤ 24 → t.num
  | .leaf p, w, h, f, _, _ => ⟨f.2.2.1, f.2.2.2⟩
  | .node rows size l r, w, h, f, hw, hh => by
    have ts := Tr.fits_size f
    refine ⟨by omega, by cases rows <;> simp at ts <;> omega, Tr.fits_num f.1 ?_ ?_, Tr.fits_num f.2 ?_ ?_⟩
    · unfold lwOf; cases rows <;> simp at ts ⊢ <;> omega
    · unfold lhOf; cases rows <;> simp at ts ⊢ <;> omega
    · unfold rwOf; cases rows <;> simp at ts ⊢ <;> omega
    · unfold rhOf; cases rows <;> simp at ts ⊢ <;> omega
theorem markB_size (b : Bool) : (markB b).size = 1 := by cases b <;> rfl
theorem Tr.text_size : ∀ {t : Tr}, t.num → t.textB.size + 11 ≤ 18 * t.leaves
  | .leaf p, f => by
    have : (numB p.toNat).size ≤ 7 := numB_le (by have := f.2; omega)
    show (numB p.toNat).size + 11 ≤ 18 * 1
    omega
  | .node rows size l r, f => by
    have h1 := Tr.text_size f.2.2.1
    have h2 := Tr.text_size f.2.2.2
    have h3 : (numB size.toNat).size ≤ 7 := numB_le (by have := f.2.1; omega)
    have h4 := markB_size rows
    have h5 : opB.size = 1 := rfl
    have h6 : clB.size = 1 := rfl
    simp only [Tr.textB, Tr.leaves, ByteArray.size_append, h4, h5, h6]
    omega
attribute [local irreducible] wpList
set_option maxHeartbeats 4000000 in
theorem l05Text_any : ∀ (t : Tr) (s : Sh) (w : World), TreS w s t → t.num → t.leaves ≤ 1000 →
    Calls Tryd.prog 20 #[.pointer (some ⟨s.root, 0, none⟩)] w fun e w' => e = .returned (.string t.textB) ∧ Below w.heap.size w w' := by
  intro t
  induction t with
  | leaf p =>
    intro s w h hp hl
    obtain ⟨c, rfl, hc⟩ := TreG.leaf h
    obtain ⟨n, rfl⟩ : ∃ n : Nat, p = (n : Int) := ⟨p.toNat, by have := hp.1; omega⟩
    have x := box_cells hc
    have HD : Hid (∀ W, Calls Tryd.prog 39 #[.int .i64 n] W fun e w' => e = .returned (.string (numB n)) ∧ Below W.heap.size W w') := fun W => l00Digits_any n W (by have := hp.2; omega)
    unfold treeLf at x
    show Calls _ _ #[.pointer (some ⟨c, 0, none⟩)] _ fun e w' => e = .returned (.string (numB n)) ∧ _
    clear h hc hl hp
    go_enter Tryd.func20, Tryd.ntmps20
    go_wp2_with fail
    refine (HD.out _).mono ?_
    rintro e w1 ⟨rfl, hb⟩
    go_wp2
    go_ret
    exact ⟨rfl, hb⟩
  | node rows size l r ihl ihr =>
    intro s w h hp hl
    obtain ⟨c, sl, sr, rfl, hc, h1, h2⟩ := TreG.node h
    obtain ⟨n, rfl⟩ : ∃ n : Nat, size = (n : Int) := ⟨size.toNat, by have := hp.1; omega⟩
    simp only [Tr.leaves] at hl
    have HD : Hid (∀ W, Calls Tryd.prog 39 #[.int .i64 n] W fun e w' => e = .returned (.string (numB n)) ∧ Below W.heap.size W w') := fun W => l00Digits_any n W (by have := hp.2.1; omega)
    have HL : Hid (∀ W, TreS W sl l → Calls Tryd.prog 20 #[.pointer (some ⟨sl.root, 0, none⟩)] W fun e w' => e = .returned (.string l.textB) ∧ Below W.heap.size W w') := fun W ht => ihl sl W ht hp.2.2.1 (by omega)
    have HR : Hid (∀ W, TreS W sr r → Calls Tryd.prog 20 #[.pointer (some ⟨sr.root, 0, none⟩)] W fun e w' => e = .returned (.string r.textB) ∧ Below W.heap.size W w') := fun W ht => ihr sr W ht hp.2.2.2 (by omega)
    have z1 := Tr.text_size hp.2.2.1
    have z2 := Tr.text_size hp.2.2.2
    have z3 : (numB n).size ≤ 7 := numB_le (by have := hp.2.1; omega)
    have z4 : l.textB.size ≤ 20000 := by omega
    have z5 : r.textB.size ≤ 20000 := by omega
    have HT : Hid ((Tr.node rows (n : Int) l r).textB = opB ++ l.textB ++ markB rows ++ numB n ++ markB rows ++ r.textB ++ clB) := rfl
    have z6 : (markB rows).size = 1 := markB_size rows
    have hcw := box_lt hc
    have x0 := box_cells hc
    have X0 : Hid (w.heap[c]? = some (.cells (treeNd rows (n : Int) sl.root sr.root) 74 (0, 0))) := hc
    have H1 := Lib.hid h1
    have H2 := Lib.hid h2
    unfold treeNd at x0
    generalize (Tr.node rows (n : Int) l r).textB = tb at *
    generalize l.textB = lb at *
    generalize r.textB = rb at *
    generalize numB n = db at *
    generalize sl.root = gl at *
    generalize sr.root = gr at *
    show Calls _ _ #[.pointer (some ⟨c, 0, none⟩)] _ _
    clear h hc h1 h2 hl hp ihl ihr z1 z2
    have t1 : ¬ (9223372036854775807 < 1 + lb.size) := by omega
    have t2 : ¬ (9223372036854775807 < 1 + lb.size + 1) := by omega
    have t3 : ¬ (9223372036854775807 < 1 + lb.size + 1 + db.size) := by omega
    have t4 : ¬ (9223372036854775807 < 1 + lb.size + 1 + db.size + 1) := by omega
    have t5 : ¬ (9223372036854775807 < 1 + lb.size + 1 + db.size + 1 + rb.size) := by omega
    have t6 : ¬ (9223372036854775807 < 1 + lb.size + 1 + db.size + 1 + rb.size + 1) := by omega
    clear z6
    cases hr : rows
    · rw [hr] at HT x0 X0
      clear hr
      unfold markB opB clB at *
      simp only [if_true, Bool.false_eq_true, if_false] at HT
      go_enter Tryd.func20, Tryd.ntmps20
      go_wp2_with fail
      go_region_held3 (fun w' => ∀ i, w'.cell? ⟨c, i, none⟩ = (#[.int .i64 0, .int .i64 (n : Int), .bool false, .bool false, .pointer (some ⟨gl, 0, none⟩), .pointer (some ⟨gr, 0, none⟩)] : Array Value)[i]?) (first | with_reducible exact x3 | with_reducible exact x2 | with_reducible exact x1 | exact x0)
        (first
        | (have _nd := BB2; go_at_call 20; refine (HR.out w2 (TreG.below H2.out BB2 (Nat.le_refl _))).mono ?_; rintro e w3 ⟨rfl, hb3⟩; have BB3 : Below w.heap.size w w3 := BB2.trans (hb3.mono BB2.size); have x3 := cells_below x2 hb3 (Nat.lt_of_lt_of_le hcw BB2.size))
        | (have _nd := BB1; go_at_call 39; refine (HD.out w1).mono ?_; rintro e w2 ⟨rfl, hb2⟩; have BB2 : Below w.heap.size w w2 := BB1.trans (hb2.mono BB1.size); have x2 := cells_below x1 hb2 (Nat.lt_of_lt_of_le hcw BB1.size))
        | (go_at_call 20; refine (HL.out _ (TreG.drew H1.out)).mono ?_; rintro e w1 ⟨rfl, hb1⟩; have hbd : Below w.heap.size w.drew w1 := hb1; have BB1 : Below w.heap.size w w1 := (Below.refl w.heap.size w).drew.trans hbd; have x1 := cells_below x0 BB1 hcw)
        | fail)
      all_goals
        go_wp2
        go_ret
        exact ⟨ret_str HT.out.symm, BB3⟩
    · rw [hr] at HT x0 X0
      clear hr
      unfold markB opB clB at *
      simp only [if_true, Bool.false_eq_true, if_false] at HT
      go_enter Tryd.func20, Tryd.ntmps20
      go_wp2_with fail
      go_region_held3 (fun w' => ∀ i, w'.cell? ⟨c, i, none⟩ = (#[.int .i64 0, .int .i64 (n : Int), .bool true, .bool false, .pointer (some ⟨gl, 0, none⟩), .pointer (some ⟨gr, 0, none⟩)] : Array Value)[i]?) (first | with_reducible exact x3 | with_reducible exact x2 | with_reducible exact x1 | exact x0)
        (first
        | (have _nd := BB2; go_at_call 20; refine (HR.out w2 (TreG.below H2.out BB2 (Nat.le_refl _))).mono ?_; rintro e w3 ⟨rfl, hb3⟩; have BB3 : Below w.heap.size w w3 := BB2.trans (hb3.mono BB2.size); have x3 := cells_below x2 hb3 (Nat.lt_of_lt_of_le hcw BB2.size))
        | (have _nd := BB1; go_at_call 39; refine (HD.out w1).mono ?_; rintro e w2 ⟨rfl, hb2⟩; have BB2 : Below w.heap.size w w2 := BB1.trans (hb2.mono BB1.size); have x2 := cells_below x1 hb2 (Nat.lt_of_lt_of_le hcw BB1.size))
        | (go_at_call 20; refine (HL.out _ (TreG.drew H1.out)).mono ?_; rintro e w1 ⟨rfl, hb1⟩; have hbd : Below w.heap.size w.drew w1 := hb1; have BB1 : Below w.heap.size w w1 := (Below.refl w.heap.size w).drew.trans hbd; have x1 := cells_below x0 BB1 hcw)
        | fail)
      all_goals
        go_wp2
        go_ret
        exact ⟨ret_str HT.out.symm, BB3⟩
end Go.Proofs.YtepamcfaiahmbaaDoor
