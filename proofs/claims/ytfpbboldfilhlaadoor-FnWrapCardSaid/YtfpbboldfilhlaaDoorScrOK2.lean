/-
  Contract of isScreen of the given program. Conditions: bounds on lengths.
-/
import Derived.Test.YtfpbboldfilhlaaDoorScrOK
import Derived.BigQuiet
namespace Go.Proofs.YtfpbboldfilhlaaDoor
open Go.ChangeShapes Go.WideShapes Go.ChangeAt Go.RowKit
set_option linter.unusedVariables false
set_option linter.unusedSimpArgs false
set_option maxRecDepth 100000

def scrB (wd ht x y lk tp bt sx sy : Int) (ti : ByteArray) (cs : List (Int × Int)) (hs : List ByteArray) : Bool :=
  sizeB wd ht && inR x 0 wd && inR y 0 (ht - 1) && inR lk 0 127 && inR tp 0 (ht - 2) && inR bt (tp + 1) (ht - 1) && inR sx 0 wd && inR sy 0 (ht - 1) && titleB ti && decide ((hs.length : Int) ≤ 6) && ((cs.length : Int) == wd * ht) && hs.all histB && cs.all cellB
theorem any_not_all' {α : Type} (p : α → Bool) (zs : List α) : (!zs.any fun x => !p x) = zs.all p := by induction zs with | nil => rfl | cons a l ih => simp [← ih]
theorem size_facts {wd ht : Int} (h : sizeB wd ht = true) : 2 ≤ wd ∧ wd ≤ 24 ∧ 2 ≤ ht ∧ ht ≤ 10 ∧ 0 ≤ wd * ht ∧ wd * ht ≤ 240 := by
  have h1 : (2 ≤ wd ∧ wd ≤ 24) ∧ 2 ≤ ht ∧ ht ≤ 10 := by simpa [sizeB, inR] using h
  obtain ⟨⟨a, b⟩, c, d⟩ := h1
  refine ⟨a, b, c, d, Int.mul_nonneg (by omega) (by omega), ?_⟩
  have := Int.mul_le_mul b d (by omega) (by omega)
  omega
theorem in_facts {n lo hi : Int} (h : inR n lo hi = true) : lo ≤ n ∧ n ≤ hi := by simpa [inR] using h
theorem isSize_blw (a b : Int) (r : Bool) (w : World) (h : sizeB a b = r) :
    Calls Tryd.prog 9 #[.int .i64 a, .int .i64 b] w fun e w' => e = .returned (.bool r) ∧ Below w.heap.size w w' := by
  subst h; exact (isSize_any a b w).mono (by rintro e w' ⟨h, rfl⟩; exact ⟨h, Below.refl _ _⟩)
set_option maxHeartbeats 4000000 in
theorem isScreen_any (wd ht x y lk tp bt sx sy : Int) (ti : ByteArray) (aC : Option Addr) (lenC capC : Nat) (cs : List (Int × Int)) (aH : Option Addr) (lenH capH : Nat) (hs : List ByteArray) (w : World) (hti : ti.size ≤ maxLen) (hc : At w aC (cellsV cs)) (hlc : cs.length = lenC) (hnc : lenC ≤ maxLen) (hh : At w aH (strs hs)) (hlh : hs.length = lenH) (hnh : lenH ≤ maxLen) (hz : ∀ s ∈ hs, s.size ≤ maxLen) :
    Calls Tryd.prog 12 #[.agg #[.int .i64 wd, .int .i64 ht, .int .i64 x, .int .i64 y, .int .i64 lk, .int .i64 tp, .int .i64 bt, .int .i64 sx, .int .i64 sy, .string ti, .slice aC lenC capC, .slice aH lenH capH]] w fun e w' => e = .returned (.bool (scrB wd ht x y lk tp bt sx sy ti cs hs)) ∧ Below w.heap.size w w' := by
  have H0 := Lib.hid ((Below.refl w.heap.size w).alloc (Nat.le_refl _) (.cells #[.int .i64 wd, .int .i64 ht, .int .i64 x, .int .i64 y, .int .i64 lk, .int .i64 tp, .int .i64 bt, .int .i64 sx, .int .i64 sy, .string ti, .slice aC lenC capC, .slice aH lenH capH] 27))
  have HF := Lib.hid (fun wx (hb : Below w.heap.size w wx) => containsFunc_strs (fun x => !histB x) 24 (fun _ _ => by kernel_rfl) isScreen1_any aH lenH capH hs wx (hh.below hb (Nat.le_refl _)) hlh hnh hz)
  have HC := Lib.hid (fun wx (hb : Below w.heap.size w wx) => containsFunc_cells (fun x => !cellB x) 26 (fun _ _ => by kernel_rfl) isScreen2_any aC lenC capC cs wx (hc.below hb (Nat.le_refl _)) hlc hnc)
  have HT := Lib.hid (fun w => isTitle_any ti w hti)
  have HB : Hid (scrB wd ht x y lk tp bt sx sy ti cs hs = (sizeB wd ht && inR x 0 wd && inR y 0 (ht - 1) && inR lk 0 127 && inR tp 0 (ht - 2) && inR bt (tp + 1) (ht - 1) && inR sx 0 wd && inR sy 0 (ht - 1) && titleB ti && decide ((lenH : Int) ≤ 6) && ((lenC : Int) == wd * ht) && (!hs.any fun x => !histB x) && (!cs.any fun x => !cellB x))) := by show _ = _; rw [scrB, hlc, hlh, any_not_all', any_not_all']
  obtain ⟨r0, h0⟩ : ∃ r, sizeB wd ht = r := ⟨_, rfl⟩
  obtain ⟨r1, h1⟩ : ∃ r, inR x 0 wd = r := ⟨_, rfl⟩
  obtain ⟨r2, h2⟩ : ∃ r, inR y 0 (ht - 1) = r := ⟨_, rfl⟩
  obtain ⟨r3, h3⟩ : ∃ r, inR lk 0 127 = r := ⟨_, rfl⟩
  obtain ⟨r4, h4⟩ : ∃ r, inR tp 0 (ht - 2) = r := ⟨_, rfl⟩
  obtain ⟨r5, h5⟩ : ∃ r, inR bt (tp + 1) (ht - 1) = r := ⟨_, rfl⟩
  obtain ⟨r6, h6⟩ : ∃ r, inR sx 0 wd = r := ⟨_, rfl⟩
  obtain ⟨r7, h7⟩ : ∃ r, inR sy 0 (ht - 1) = r := ⟨_, rfl⟩
  obtain ⟨r8, h8⟩ : ∃ r, titleB ti = r := ⟨_, rfl⟩
  obtain ⟨r10, h10⟩ : ∃ r, ((lenC : Int) == wd * ht) = r := ⟨_, rfl⟩
  rw [h0, h1, h2, h3, h4, h5, h6, h7, h8, h10] at HB
  rw [h8] at HT
  generalize scrB wd ht x y lk tp bt sx sy ti cs hs = R at *
  generalize (hs.any fun x => !histB x) = hb at *
  generalize (cs.any fun x => !cellB x) = cb at *
  have H0' := Lib.hid h0
  have H1 := Lib.hid h1
  have H2 := Lib.hid h2
  have H3 := Lib.hid h3
  have H4 := Lib.hid h4
  have H5 := Lib.hid h5
  have H6 := Lib.hid h6
  have H7 := Lib.hid h7
  clear hlc hlh hc hh hz hti h0 h1 h2 h3 h4 h5 h6 h7 h8
  unfold maxLen at hnc hnh
  go_enter Tryd.func12, Tryd.ntmps12
  go_wp2_with fail
  refine (isSize_blw wd ht r0 _ H0'.out).mono ?_
  rintro e w1 ⟨rfl, hb1⟩
  have hz1 : w.heap.size + 1 ≤ w1.heap.size := by have := hb1.size; simpa using this
  have B1 : Below w.heap.size w w1 := H0.out.trans (hb1.mono (by simp))
  have x1 := box_cells (box_below (box_new w (.cells #[.int .i64 wd, .int .i64 ht, .int .i64 x, .int .i64 y, .int .i64 lk, .int .i64 tp, .int .i64 bt, .int .i64 sx, .int .i64 sy, .string ti, .slice aC lenC capC, .slice aH lenH capH] 27)) hb1 (by simp))
  clear hb1 H0
  cases r0
  · go_wp2
    go_ret
    exact ⟨ret_bool (by rw [HB.out]; rfl), B1⟩
  obtain ⟨b1, b2, b3, b4, b5, b6⟩ := size_facts H0'.out
  go_wp2_with fail
  refine (with_val x 0 wd r1 _ H1.out).mono ?_
  rintro e w' ⟨rfl, rfl⟩
  cases r1
  · go_wp2
    go_ret
    exact ⟨ret_bool (by rw [HB.out]; rfl), B1⟩
  go_wp2_with fail
  refine (with_val y 0 (ht - 1) r2 _ H2.out).mono ?_
  rintro e w' ⟨rfl, rfl⟩
  cases r2
  · go_wp2
    go_ret
    exact ⟨ret_bool (by rw [HB.out]; rfl), B1⟩
  go_wp2_with fail
  refine (with_val lk 0 127 r3 _ H3.out).mono ?_
  rintro e w' ⟨rfl, rfl⟩
  cases r3
  · go_wp2
    go_ret
    exact ⟨ret_bool (by rw [HB.out]; rfl), B1⟩
  go_wp2_with fail
  refine (with_val tp 0 (ht - 2) r4 _ H4.out).mono ?_
  rintro e w' ⟨rfl, rfl⟩
  cases r4
  · go_wp2
    go_ret
    exact ⟨ret_bool (by rw [HB.out]; rfl), B1⟩
  obtain ⟨t1, t2⟩ := in_facts H4.out
  go_wp2_with fail
  refine (with_val bt (tp + 1) (ht - 1) r5 _ H5.out).mono ?_
  rintro e w' ⟨rfl, rfl⟩
  cases r5
  · go_wp2
    go_ret
    exact ⟨ret_bool (by rw [HB.out]; rfl), B1⟩
  go_wp2_with fail
  refine (with_val sx 0 wd r6 _ H6.out).mono ?_
  rintro e w' ⟨rfl, rfl⟩
  cases r6
  · go_wp2
    go_ret
    exact ⟨ret_bool (by rw [HB.out]; rfl), B1⟩
  go_wp2_with fail
  refine (with_val sy 0 (ht - 1) r7 _ H7.out).mono ?_
  rintro e w' ⟨rfl, rfl⟩
  cases r7
  · go_wp2
    go_ret
    exact ⟨ret_bool (by rw [HB.out]; rfl), B1⟩
  go_wp2_with fail
  refine (HT.out _).mono ?_
  rintro e w' ⟨rfl, rfl⟩
  cases r8
  · go_wp2
    go_ret
    exact ⟨ret_bool (by rw [HB.out]; rfl), B1⟩
  by_cases h9 : (lenH : Int) ≤ 6
  case neg =>
    have HB9 : Hid (R = false) := by show _ = _; rw [HB.out, decide_eq_false h9]; rfl
    go_wp2
    go_ret
    exact ⟨ret_bool (by rw [HB9.out]), B1⟩
  have HB9 : Hid (R = (r10 && (!hb) && (!cb))) := by show _ = _; rw [HB.out, decide_eq_true h9]; rfl
  clear HB
  cases r10
  · go_wp2
    go_ret
    exact ⟨ret_bool (by rw [HB9.out]; rfl), B1⟩
  go_wp2_with fail
  refine (HF.out _ B1).mono ?_
  rintro e w' ⟨rfl, rfl⟩
  cases hb
  case true =>
    go_wp2
    go_ret
    exact ⟨ret_bool (by rw [HB9.out]; rfl), B1⟩
  go_wp2_with fail
  refine (HC.out _ B1).mono ?_
  rintro e w2 ⟨rfl, hb2⟩
  have B2 : Below w.heap.size w w2 := B1.trans (hb2.mono B1.size)
  go_wp2
  go_ret
  exact ⟨ret_bool (by rw [HB9.out]; rfl), B2⟩
end Go.Proofs.YtfpbboldfilhlaaDoor
