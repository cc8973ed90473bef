/-
  Contracts and plain facts that the law FnSplits leans on: layouts' texts, removing, parting, the drawn layout. Conditions: as each theorem says.
-/
import Derived.Test.YtaacccooidehlaaDoorIn
import Derived.Lib.ItoaNum
import Derived.Deep.RegionHeld
import Derived.Test.YtaacccooidehlaaDoorTreS
import Derived.Test.YtaacccooidehlaaDoorFitR
import Derived.Test.YtaacccooidehlaaDoorShelf
import Derived.Lib.LaidTab
import Derived.Lib.AppendIntMem
import Derived.Test.YtaacccooidehlaaDoorLayOK
import Derived.Test.YtaacccooidehlaaDoorTreFit
import Derived.Test.YtaacccooidehlaaDoorKillQ
import Derived.Test.YtaacccooidehlaaDoorSplitI
import Derived.Test.YtaacccooidehlaaDoorLayOps
import Derived.Test.YtaacccooidehlaaDoorLayDraw
import Derived.BigQuiet
namespace Go.Proofs.YtaacccooidehlaaDoor
open Go.ChangeShapes Go.WideShapes Go.ChangeAt Go.RowKit
set_option linter.unusedVariables false
set_option linter.unusedSimpArgs false
set_option maxRecDepth 100000
def numB (n : Nat) : ByteArray := ⟨(Lib.decDigits n).toArray⟩
theorem numB_small {n : Nat} (h : n < 10) : numB n = ⟨#[UInt8.ofNat (48 + n)]⟩ := by unfold numB; rw [Lib.decDigits, dif_pos h]
theorem numB_big {n : Nat} (h : ¬ n < 10) : numB n = numB (n / 10) ++ ⟨#[UInt8.ofNat (48 + n % 10)]⟩ := by
  unfold numB
  rw [Lib.decDigits, dif_neg h]
  apply ByteArray.ext
  simp
theorem numB_size : ∀ (k n : Nat), n < 10 ^ (k + 1) → (numB n).size ≤ k + 1
  | k, n, h => by
    by_cases hs : n < 10
    · rw [numB_small hs]; show 1 ≤ _; omega
    · match k, h with
      | 0, h => omega
      | k + 1, h =>
        have hd : n / 10 < 10 ^ (k + 1) := by rw [Nat.pow_succ] at h; omega
        have := numB_size k (n / 10) hd
        rw [numB_big hs, ByteArray.size_append]
        show _ + 1 ≤ _
        omega
theorem numB_le {n : Nat} (h : n ≤ 1000000) : (numB n).size ≤ 7 := numB_size 6 n (by omega)
/-- 'string([]byte{byte(v)})': the letter -/
theorem letter_any (v : Nat) (hv : v < 256) (W : World) (B : Nat) (h : W.heap[B]? = some (.cells #[.int .u8 (v : Int)] 5 (0, 0))) :
    (convert 22 9 (.slice (some ⟨B, 0, none⟩) 1 1)).run Tryd.prog W = .ok (.string ⟨#[UInt8.ofNat v]⟩) W := by
  have ha : At W (some ⟨B, 0, none⟩) (u8s [UInt8.ofNat v]) := by
    have := at_block h
    rw [show (#[Value.int .u8 (v : Int)] : Array Value).toList = u8s [UInt8.ofNat v] from by simp [u8s]; omega] at this
    exact this
  exact conv_at 22 9 5 1 1 Tryd.underlying22 Tryd.underlying5 Tryd.underlying9 ha rfl
attribute [local irreducible] wpList
end Go.Proofs.YtaacccooidehlaaDoor
namespace Go.Proofs.YtaacccooidehlaaDoor
open Go.ChangeShapes Go.WideShapes Go.ChangeAt Go.RowKit
set_option linter.unusedVariables false
set_option linter.unusedSimpArgs false
set_option maxRecDepth 100000
def markB (rows : Bool) : ByteArray := if rows then ⟨#[45]⟩ else ⟨#[124]⟩
def opB : ByteArray := ⟨#[40]⟩
def clB : ByteArray := ⟨#[41]⟩
def Tr.textB : Tr → ByteArray
  | .leaf p => numB p.toNat
  | .node rows size l r => opB ++ l.textB ++ markB rows ++ numB size.toNat ++ markB rows ++ r.textB ++ clB
def Tr.num : Tr → Prop
  | .leaf p => 1 ≤ p ∧ p ≤ 1000
  | .node _ size l r => 1 ≤ size ∧ size ≤ 24 ∧ l.num ∧ r.num
theorem Tr.fits_num : ∀ {t : Tr} {w h : Int}, t.fits w h → w ≤ 24 → h ≤ 24 → t.num
  | .leaf p, w, h, f, _, _ => ⟨f.2.2.1, f.2.2.2⟩
  | .node rows size l r, w, h, f, hw, hh => by
    have ts := Tr.fits_size f
    refine ⟨by omega, by cases rows <;> simp at ts <;> omega, Tr.fits_num f.1 ?_ ?_, Tr.fits_num f.2 ?_ ?_⟩
    · unfold lwOf; cases rows <;> simp at ts ⊢ <;> omega
    · unfold lhOf; cases rows <;> simp at ts ⊢ <;> omega
    · unfold rwOf; cases rows <;> simp at ts ⊢ <;> omega
    · unfold rhOf; cases rows <;> simp at ts ⊢ <;> omega
theorem markB_size (b : Bool) : (markB b).size = 1 := by cases b <;> rfl
theorem Tr.text_size : ∀ {t : Tr}, t.num → t.textB.size + 11 ≤ 18 * t.leaves
  | .leaf p, f => by
    have : (numB p.toNat).size ≤ 7 := numB_le (by have := f.2; omega)
    show (numB p.toNat).size + 11 ≤ 18 * 1
    omega
  | .node rows size l r, f => by
    have h1 := Tr.text_size f.2.2.1
    have h2 := Tr.text_size f.2.2.2
    have h3 : (numB size.toNat).size ≤ 7 := numB_le (by have := f.2.1; omega)
    have h4 := markB_size rows
    have h5 : opB.size = 1 := rfl
    have h6 : clB.size = 1 := rfl
    simp only [Tr.textB, Tr.leaves, ByteArray.size_append, h4, h5, h6]
    omega
attribute [local irreducible] wpList
end Go.Proofs.YtaacccooidehlaaDoor
namespace Go.Proofs.YtaacccooidehlaaDoor
open Go.ChangeShapes Go.WideShapes Go.ChangeAt Go.RowKit
set_option linter.unusedVariables false
set_option linter.unusedSimpArgs false
set_option maxRecDepth 100000
def Pow (w : World) : Prop := Lib.TabIs Tryd.prog w "internal/strconv.uint64pow10" .u64 Lib.pow10Tab
theorem gPow : Tryd.prog.globalNamed "internal/strconv.uint64pow10" = some 0 := by kernel_rfl
theorem Pow.below {C : Nat} {w w' : World} (h : Pow w) (hb : Below C w w') (hC : w.heap.size ≤ C) : Pow w' := by
  unfold Pow Lib.TabIs World.var? at *
  rw [gPow] at *
  simp only [Option.bind_some] at *
  have hlt : 0 < w.heap.size := by
    rcases Nat.lt_or_ge 0 w.heap.size with h' | h'
    · exact h'
    · rw [Array.getElem?_eq_none h'] at h; cases h
  rw [hb.block 0 (by omega)]; exact h
theorem itoa_any (n : Nat) (w : World) (hw : Pow w) (hn : n ≤ 1000000) :
    Calls Tryd.prog 50 #[.int .i64 (n : Int)] w fun e w' => e = .returned (.string (numB n)) ∧ Below w.heap.size w w' := by
  refine (Tryd.strconv_Itoa (n : Int) (by omega) (by omega) w hw).mono ?_
  rintro e w' ⟨rfl, k, os, rfl⟩
  refine ⟨ret_str ?_, Lib.below_grow _ _ (Nat.le_refl _) _ _⟩
  unfold numB Lib.itoa
  rw [if_neg (by omega)]
  simp
attribute [local irreducible] wpList
set_option maxHeartbeats 4000000 in
theorem text_any : ∀ (t : Tr) (s : Sh) (w : World), Pow w → TreI w s t → t.num → t.leaves ≤ 1000 →
    Calls Tryd.prog 26 #[.pointer (some ⟨s.root, 0, none⟩)] w fun e w' => e = .returned (.string t.textB) ∧ Below w.heap.size w w' := by
  intro t
  induction t with
  | leaf p =>
    intro s w hg h hp hl
    obtain ⟨c, rfl, hc⟩ := TreG.leaf h
    obtain ⟨n, rfl⟩ : ∃ n : Nat, p = (n : Int) := ⟨p.toNat, by have := hp.1; omega⟩
    have x := box_cells hc
    have HD : Hid (∀ W, Pow W → Calls Tryd.prog 50 #[.int .i64 n] W fun e w' => e = .returned (.string (numB n)) ∧ Below W.heap.size W w') := fun W hw => itoa_any n W hw (by have := hp.2; omega)
    unfold areaLf at x
    have hq := bne_iff_ne.2 (show (n : Int) ≠ 0 by have := hp.1; omega)
    have HG := Lib.hid hg
    show Calls _ _ #[.pointer (some ⟨c, 0, none⟩)] _ fun e w' => e = .returned (.string (numB n)) ∧ _
    clear h hc hl hp hg
    go_enter Tryd.func26, Tryd.ntmps26
    go_wp2_with fail
    refine (HD.out _ HG.out).mono ?_
    rintro e w1 ⟨rfl, hb⟩
    go_wp2
    go_ret
    exact ⟨rfl, hb⟩
  | node rows size l r ihl ihr =>
    intro s w hg h hp hl
    obtain ⟨c, sl, sr, rfl, hc, h1, h2⟩ := TreG.node h
    obtain ⟨n, rfl⟩ : ∃ n : Nat, size = (n : Int) := ⟨size.toNat, by have := hp.1; omega⟩
    simp only [Tr.leaves] at hl
    have HD : Hid (∀ W, Pow W → Calls Tryd.prog 50 #[.int .i64 n] W fun e w' => e = .returned (.string (numB n)) ∧ Below W.heap.size W w') := fun W hw => itoa_any n W hw (by have := hp.2.1; omega)
    have HL : Hid (∀ W, Pow W → TreI W sl l → Calls Tryd.prog 26 #[.pointer (some ⟨sl.root, 0, none⟩)] W fun e w' => e = .returned (.string l.textB) ∧ Below W.heap.size W w') := fun W hw ht => ihl sl W hw ht hp.2.2.1 (by omega)
    have HR : Hid (∀ W, Pow W → TreI W sr r → Calls Tryd.prog 26 #[.pointer (some ⟨sr.root, 0, none⟩)] W fun e w' => e = .returned (.string r.textB) ∧ Below W.heap.size W w') := fun W hw ht => ihr sr W hw ht hp.2.2.2 (by omega)
    have z1 := Tr.text_size hp.2.2.1
    have z2 := Tr.text_size hp.2.2.2
    have z3 : (numB n).size ≤ 7 := numB_le (by have := hp.2.1; omega)
    have z4 : l.textB.size ≤ 20000 := by omega
    have z5 : r.textB.size ≤ 20000 := by omega
    have HT : Hid ((Tr.node rows (n : Int) l r).textB = opB ++ l.textB ++ markB rows ++ numB n ++ markB rows ++ r.textB ++ clB) := rfl
    have z6 : (markB rows).size = 1 := markB_size rows
    have hcw := box_lt hc
    have x0 := box_cells hc
    have HG := Lib.hid hg
    have X0 : Hid (w.heap[c]? = some (.cells (areaNd rows (n : Int) sl.root sr.root) 77 (0, 0))) := hc
    have H1 := Lib.hid h1
    have H2 := Lib.hid h2
    unfold areaNd at x0
    generalize (Tr.node rows (n : Int) l r).textB = tb at *
    generalize l.textB = lb at *
    generalize r.textB = rb at *
    generalize numB n = db at *
    generalize sl.root = gl at *
    generalize sr.root = gr at *
    show Calls _ _ #[.pointer (some ⟨c, 0, none⟩)] _ _
    clear h hc h1 h2 hl hp ihl ihr z1 z2 hg
    have t1 : ¬ (9223372036854775807 < 1 + lb.size) := by omega
    have t2 : ¬ (9223372036854775807 < 1 + lb.size + 1) := by omega
    have t3 : ¬ (9223372036854775807 < 1 + lb.size + 1 + db.size) := by omega
    have t4 : ¬ (9223372036854775807 < 1 + lb.size + 1 + db.size + 1) := by omega
    have t5 : ¬ (9223372036854775807 < 1 + lb.size + 1 + db.size + 1 + rb.size) := by omega
    have t6 : ¬ (9223372036854775807 < 1 + lb.size + 1 + db.size + 1 + rb.size + 1) := by omega
    clear z6
    cases hr : rows
    · rw [hr] at HT x0 X0
      clear hr
      unfold markB opB clB at *
      simp only [if_true, Bool.false_eq_true, if_false] at HT
      go_enter Tryd.func26, Tryd.ntmps26
      go_wp2_with fail
      go_region_held3 (fun w' => ∀ i, w'.cell? ⟨c, i, none⟩ = (#[.int .i64 0, .bool false, .int .i64 (n : Int), .pointer (some ⟨gl, 0, none⟩), .pointer (some ⟨gr, 0, none⟩)] : Array Value)[i]?) (first | with_reducible exact x3 | with_reducible exact x2 | with_reducible exact x1 | exact x0)
        (first
        | (have _nd := BB2; go_at_call 26; refine (HR.out w2 (HG.out.below BB2 (Nat.le_refl _)) (TreG.below H2.out BB2 (Nat.le_refl _))).mono ?_; rintro e w3 ⟨rfl, hb3⟩; have BB3 : Below w.heap.size w w3 := BB2.trans (hb3.mono BB2.size); have x3 := cells_below x2 hb3 (Nat.lt_of_lt_of_le hcw BB2.size))
        | (have _nd := BB1; go_at_call 50; refine (HD.out w1 (HG.out.below BB1 (Nat.le_refl _))).mono ?_; rintro e w2 ⟨rfl, hb2⟩; have BB2 : Below w.heap.size w w2 := BB1.trans (hb2.mono BB1.size); have x2 := cells_below x1 hb2 (Nat.lt_of_lt_of_le hcw BB1.size))
        | (go_at_call 26; refine (HL.out _ (HG.out.below ((Below.refl w.heap.size w).drew) (Nat.le_refl _)) (TreG.drew H1.out)).mono ?_; rintro e w1 ⟨rfl, hb1⟩; have hbd : Below w.heap.size w.drew w1 := hb1; have BB1 : Below w.heap.size w w1 := (Below.refl w.heap.size w).drew.trans hbd; have x1 := cells_below x0 BB1 hcw)
        | fail)
      all_goals
        go_wp2
        go_ret
        exact ⟨ret_str HT.out.symm, BB3⟩
    · rw [hr] at HT x0 X0
      clear hr
      unfold markB opB clB at *
      simp only [if_true, Bool.false_eq_true, if_false] at HT
      go_enter Tryd.func26, Tryd.ntmps26
      go_wp2_with fail
      go_region_held3 (fun w' => ∀ i, w'.cell? ⟨c, i, none⟩ = (#[.int .i64 0, .bool true, .int .i64 (n : Int), .pointer (some ⟨gl, 0, none⟩), .pointer (some ⟨gr, 0, none⟩)] : Array Value)[i]?) (first | with_reducible exact x3 | with_reducible exact x2 | with_reducible exact x1 | exact x0)
        (first
        | (have _nd := BB2; go_at_call 26; refine (HR.out w2 (HG.out.below BB2 (Nat.le_refl _)) (TreG.below H2.out BB2 (Nat.le_refl _))).mono ?_; rintro e w3 ⟨rfl, hb3⟩; have BB3 : Below w.heap.size w w3 := BB2.trans (hb3.mono BB2.size); have x3 := cells_below x2 hb3 (Nat.lt_of_lt_of_le hcw BB2.size))
        | (have _nd := BB1; go_at_call 50; refine (HD.out w1 (HG.out.below BB1 (Nat.le_refl _))).mono ?_; rintro e w2 ⟨rfl, hb2⟩; have BB2 : Below w.heap.size w w2 := BB1.trans (hb2.mono BB1.size); have x2 := cells_below x1 hb2 (Nat.lt_of_lt_of_le hcw BB1.size))
        | (go_at_call 26; refine (HL.out _ (HG.out.below ((Below.refl w.heap.size w).drew) (Nat.le_refl _)) (TreG.drew H1.out)).mono ?_; rintro e w1 ⟨rfl, hb1⟩; have hbd : Below w.heap.size w.drew w1 := hb1; have BB1 : Below w.heap.size w w1 := (Below.refl w.heap.size w).drew.trans hbd; have x1 := cells_below x0 BB1 hcw)
        | fail)
      all_goals
        go_wp2
        go_ret
        exact ⟨ret_str HT.out.symm, BB3⟩
end Go.Proofs.YtaacccooidehlaaDoor
namespace Go.Proofs.YtaacccooidehlaaDoor
open Go.ChangeShapes Go.WideShapes Go.ChangeAt Go.RowKit
set_option linter.unusedVariables false
set_option linter.unusedSimpArgs false
set_option maxRecDepth 100000
/-- what LayoutText answers -/
def TextR (ps : List PartV) (W H : Int) (tx : ByteArray) (cd : Int) : Prop := (okL ps W H = false ∧ tx = ByteArray.empty ∧ cd = 1) ∨ ∃ t, Lay ps W H t ∧ tx = t.textB ∧ cd = 0
theorem TextR.ex (ps : List PartV) (W H : Int) : ∃ tx cd, TextR ps W H tx cd := by
  cases h : okL ps W H
  · exact ⟨_, _, .inl ⟨h, rfl, rfl⟩⟩
  · obtain ⟨t, y⟩ := okL_get h
    exact ⟨_, _, .inr ⟨t, y, rfl, rfl⟩⟩
attribute [local irreducible] wpList
set_option maxHeartbeats 4000000 in
theorem implText_any (ao : Option Addr) (len cap : Nat) (ps : List PartV) (W H : Int) (tx : ByteArray) (cd : Int) (w : World) (hg : Pow w) (ha : At w ao (partsV ps)) (hl : ps.length = len) (hlc : len ≤ cap) (hn : len ≤ 2000000) (hR : TextR ps W H tx cd) :
    Calls Tryd.prog 12 #[.agg #[.slice ao len cap], .int .i64 W, .int .i64 H] w fun e w' => e = .returned (.tuple #[.string tx, .int .i64 cd]) ∧ Below w.heap.size w w' := by
  obtain ⟨V, hV⟩ : ∃ V, (w.alloc (.cells #[.slice ao len cap] 26)) = V := ⟨_, rfl⟩
  have hB : Below w.heap.size w V := by rw [← hV]; exact (Below.refl _ _).alloc (Nat.le_refl _) _
  have hz : V.heap.size = w.heap.size + 1 := by rw [← hV]; simp
  have HO := Lib.hid (treeOf_any ao len cap ps W H V (ha.below hB (Nat.le_refl _)) hl hlc hn)
  have HB := Lib.hid hB
  have HA := Lib.hid ha
  have HZ := Lib.hid hz
  have HL := Lib.hid hl
  have HG := Lib.hid hg
  have HR := Lib.hid hR
  clear ha hB hz hl hg hR
  subst hV
  go_enter Tryd.func12, Tryd.ntmps12
  go_wp2_with fail
  refine HO.out.mono ?_
  generalize (w.alloc (.cells #[.slice ao len cap] 26)) = V at *
  rintro e w1 ⟨hb1, hcase⟩
  have B1 : Hid (Below w.heap.size w w1) := HB.out.trans (hb1.mono (by have := HZ.out; omega))
  clear hb1 HO
  rcases hcase with ⟨hno, rfl⟩ | ⟨t, s, hy, rfl, ht, hnd, hge⟩
  · rcases HR.out with ⟨_, rfl, rfl⟩ | ⟨t, y, _⟩
    rotate_left
    · exact absurd y (hno t)
    clear hno HR
    go_wp2
    go_ret2
    exact ⟨rfl, B1.out⟩
  · rcases HR.out with ⟨h, _⟩ | ⟨t', y', hT, rfl⟩
    · exact absurd hy (okL_none h t)
    obtain rfl := y'.unique hy
    have HT := Lib.hid hT
    have HTX := Lib.hid (text_any t' s w1 (HG.out.below B1.out (Nat.le_refl _)) ht (Tr.fits_num hy.ft hy.w2 (by have := hy.h2; omega)) (by have := hy.lv; omega))
    clear hy y' ht hnd hge hT HR
    go_wp2_with fail
    refine HTX.out.mono ?_
    rintro e w3 ⟨rfl, hb3⟩
    have B3 : Hid (Below w.heap.size w w3) := B1.out.trans (hb3.mono B1.out.size)
    clear hb3 HTX
    go_wp2
    go_ret2
    exact ⟨by rw [HT.out]; rfl, B3.out⟩
end Go.Proofs.YtaacccooidehlaaDoor
namespace Go.Proofs.YtaacccooidehlaaDoor
open Go.ChangeShapes Go.WideShapes Go.ChangeAt Go.RowKit
set_option linter.unusedVariables false
set_option linter.unusedSimpArgs false
set_option maxRecDepth 100000
set_option maxHeartbeats 4000000 in
theorem implKillR_any (ao : Option Addr) (len cap : Nat) (ps : List PartV) (W H pn : Int) (n : Nat) (rl : List PartV) (cd : Int) (w : World) (ha : At w ao (partsV ps)) (hl : ps.length = len) (hlc : len ≤ cap) (hn : len ≤ 2000000) (hR : KillR ps W H pn rl cd) (hrl : rl.length = n) :
    Calls Tryd.prog 11 #[.agg #[.slice ao len cap], .int .i64 W, .int .i64 H, .int .i64 pn] w fun e w' => ∃ ao cap, e = .returned (.tuple #[.agg #[.slice ao n cap], .int .i64 cd]) ∧ n ≤ cap ∧ Mine w.heap.size w' ao (partsV rl) ∧ Below w.heap.size w w' := by
  obtain ⟨V, hV⟩ : ∃ V, ((w.alloc (.cells #[.slice ao len cap] 26)).alloc (.cells #[.slice none 0 0] 26)) = V := ⟨_, rfl⟩
  have hB : Below w.heap.size w V := by rw [← hV]; exact ((Below.refl _ _).alloc (Nat.le_refl _) _).alloc (by simp) _
  have hz : V.heap.size = w.heap.size + 2 := by rw [← hV]; simp
  have m0 : V.heap[w.heap.size]? = some (.cells #[.slice ao len cap] 26 (0, 0)) := by rw [← hV, Below.heap_alloc _ _ _ (by simp)]; exact heap_alloc_new w _
  have m1 : V.heap[w.heap.size + 1]? = some (.cells #[.slice none 0 0] 26 (0, 0)) := by
    rw [← hV]
    have := heap_alloc_new (w.alloc (.cells #[.slice ao len cap] 26)) (.cells #[.slice none 0 0] 26)
    rw [World.size_alloc] at this; exact this
  have HO := Lib.hid (treeOf_any ao len cap ps W H V (ha.below hB (Nat.le_refl _)) hl hlc hn)
  have HB := Lib.hid hB
  have HM0 := Lib.hid m0
  have HM1 := Lib.hid m1
  have HA := Lib.hid ha
  have HZ := Lib.hid hz
  have HR := Lib.hid hR
  have HRL := Lib.hid hrl
  have HPL := Lib.hid hl
  clear ha hB m0 m1 hz hR hrl hl
  subst hV
  go_enter Tryd.func11, Tryd.ntmps11
  go_wp2_with fail
  refine HO.out.mono ?_
  generalize ((w.alloc (.cells #[.slice ao len cap] 26)).alloc (.cells #[.slice none 0 0] 26)) = V at *
  rintro e w1 ⟨hb1, hcase⟩
  have hzV := HZ.out
  have hz1 : V.heap.size ≤ w1.heap.size := hb1.size
  have X0 := Lib.hid (box_below HM0.out hb1 (by omega))
  have X1 := Lib.hid (box_below HM1.out hb1 (by omega))
  have B1 : Hid (Below w.heap.size w w1) := HB.out.trans (hb1.mono (by omega))
  clear hb1 HO HB HM0 HM1
  rcases hcase with ⟨hno, rfl⟩ | ⟨t, s, hy, rfl, ht, hnd, hge⟩
  · rcases HR.out with ⟨_, rfl, rfl⟩ | ⟨t, y, _⟩
    rotate_left
    · exact absurd y (hno t)
    obtain rfl : n = 0 := HRL.out.symm
    clear hno HR HRL
    have x1 := box_cells X1.out 0
    have f1 := box_free X1.out 0
    simp only [List.getElem?_toArray, List.getElem?_cons_zero] at x1
    go_wp2
    refine bodyPost_ret (v := .tuple #[.agg #[.slice none 0 0], .int .i64 1]) (by simp [results, Tryd.results11, x1, go_sem]) rfl ⟨none, 0, rfl, Nat.le_refl _, .inl rfl, ?_⟩
    first
      | exact B1.out
      | exact B1.out.setCell (by dsimp only; omega) _
  · rcases HR.out with ⟨h, _⟩ | ⟨t', y', hRR⟩
    · exact absurd hy (okL_none h t)
    obtain rfl := y'.unique hy
    clear y'
    have hQ := hRR
    obtain ⟨l1, l2, l3, l4⟩ := hy.len
    have HY := Lib.hid hy
    have HT := Lib.hid ht
    have HGE := Lib.hid hge
    have HND := Lib.hid hnd
    clear HR hy ht hge hnd
    obtain ⟨t2, hO, rfl⟩ := hQ
    have HK := Lib.hid (kill_any HY.out s w1 HT.out HND.out pn t2 cd hO)
    have hy2 := killO_ok HY.out hO
    obtain ⟨m1, m2, m3, m4⟩ := hy2.len
    have HOK := Lib.hid hy2.okP
    have HLN : Hid (t2.len = n) := by have := HRL.out; rw [Tr.length_parts] at this; exact this
    clear hO hy2 m3
    go_wp2_with fail
    refine HK.out.mono ?_
    rintro e w2 ⟨rfl, ⟨s2, ht2, hs2⟩, ho2⟩
    have hb2 : Below V.heap.size w1 w2 := ho2.below HGE.out hz1
    have hz2 : w1.heap.size ≤ w2.heap.size := hb2.size
    replace X0 := Lib.hid (box_below X0.out hb2 (by omega))
    replace X1 := Lib.hid (box_below X1.out hb2 (by omega))
    replace B1 : Hid (Below w.heap.size w w2) := B1.out.trans (hb2.mono (by omega))
    have HL := Lib.hid (layoutOf_any t2 s2 w2 ht2 HOK.out (by omega))
    rw [hs2] at HL
    clear ht2 hs2 ho2 hb2 HK HGE
    go_wp2_with fail
    refine HL.out.mono ?_
    rintro e w3 ⟨a3, c3, rfl, hc3, hm3, hb3⟩
    rw [HLN.out] at hc3 ⊢
    replace X1 := Lib.hid (box_below X1.out hb3 (by omega))
    replace B1 : Hid (Below w.heap.size w w3) := B1.out.trans (hb3.mono (by omega))
    have HM : Hid (Mine w2.heap.size w3 a3 (partsV (t2.parts 0))) := hm3
    have HC3 := Lib.hid hc3
    have x1 := box_cells X1.out 0
    have f1 := box_free X1.out 0
    simp only [List.getElem?_toArray, List.getElem?_cons_zero] at x1
    clear hb3 hm3 hc3 HL
    go_wp2
    refine bodyPost_ret (v := .tuple #[.agg #[.slice a3 n c3], .int .i64 cd]) (by simp [results, Tryd.results11, x1, go_sem]) rfl ⟨a3, c3, rfl, HC3.out, ?_, ?_⟩
    · exact (HM.out.set_oth (by dsimp only; omega) _).mono (by omega)
    · exact B1.out.setCell (by dsimp only; omega) _
end Go.Proofs.YtaacccooidehlaaDoor
namespace Go.Proofs.YtaacccooidehlaaDoor
open Go.ChangeShapes Go.WideShapes Go.ChangeAt Go.RowKit
set_option linter.unusedVariables false
set_option linter.unusedSimpArgs false
set_option maxRecDepth 100000
set_option maxHeartbeats 4000000 in
theorem implSplitR_any (ao : Option Addr) (len cap : Nat) (ps : List PartV) (W H pn fr : Int) (rws : Bool) (n : Nat) (rl : List PartV) (cd : Int) (w : World) (ha : At w ao (partsV ps)) (hl : ps.length = len) (hlc : len ≤ cap) (hn : len ≤ 2000000) (hR : SplitR ps W H pn fr rws rl cd) (hrl : rl.length = n) :
    Calls Tryd.prog 7 #[.agg #[.slice ao len cap], .int .i64 W, .int .i64 H, .int .i64 pn, .int .i64 fr, .bool rws] w fun e w' => ∃ ao cap, e = .returned (.tuple #[.agg #[.slice ao n cap], .int .i64 cd]) ∧ n ≤ cap ∧ Mine w.heap.size w' ao (partsV rl) ∧ Below w.heap.size w w' := by
  obtain ⟨V, hV⟩ : ∃ V, ((w.alloc (.cells #[.slice ao len cap] 26)).alloc (.cells #[.slice none 0 0] 26)) = V := ⟨_, rfl⟩
  have hB : Below w.heap.size w V := by rw [← hV]; exact ((Below.refl _ _).alloc (Nat.le_refl _) _).alloc (by simp) _
  have hz : V.heap.size = w.heap.size + 2 := by rw [← hV]; simp
  have m0 : V.heap[w.heap.size]? = some (.cells #[.slice ao len cap] 26 (0, 0)) := by rw [← hV, Below.heap_alloc _ _ _ (by simp)]; exact heap_alloc_new w _
  have m1 : V.heap[w.heap.size + 1]? = some (.cells #[.slice none 0 0] 26 (0, 0)) := by
    rw [← hV]
    have := heap_alloc_new (w.alloc (.cells #[.slice ao len cap] 26)) (.cells #[.slice none 0 0] 26)
    rw [World.size_alloc] at this; exact this
  have HO := Lib.hid (treeOf_any ao len cap ps W H V (ha.below hB (Nat.le_refl _)) hl hlc hn)
  have HB := Lib.hid hB
  have HM0 := Lib.hid m0
  have HM1 := Lib.hid m1
  have HA := Lib.hid ha
  have HZ := Lib.hid hz
  have HR := Lib.hid hR
  have HRL := Lib.hid hrl
  have HPL := Lib.hid hl
  clear ha hB m0 m1 hz hR hrl hl
  subst hV
  go_enter Tryd.func7, Tryd.ntmps7
  go_wp2_with fail
  refine HO.out.mono ?_
  generalize ((w.alloc (.cells #[.slice ao len cap] 26)).alloc (.cells #[.slice none 0 0] 26)) = V at *
  rintro e w1 ⟨hb1, hcase⟩
  have hzV := HZ.out
  have hz1 : V.heap.size ≤ w1.heap.size := hb1.size
  have X0 := Lib.hid (box_below HM0.out hb1 (by omega))
  have X1 := Lib.hid (box_below HM1.out hb1 (by omega))
  have B1 : Hid (Below w.heap.size w w1) := HB.out.trans (hb1.mono (by omega))
  clear hb1 HO HB HM0 HM1
  rcases hcase with ⟨hno, rfl⟩ | ⟨t, s, hy, rfl, ht, hnd, hge⟩
  · rcases HR.out with ⟨_, rfl, rfl⟩ | ⟨t, y, _⟩
    rotate_left
    · exact absurd y (hno t)
    obtain rfl : n = 0 := HRL.out.symm
    clear hno HR HRL
    have x1 := box_cells X1.out 0
    have f1 := box_free X1.out 0
    simp only [List.getElem?_toArray, List.getElem?_cons_zero] at x1
    go_wp2
    refine bodyPost_ret (v := .tuple #[.agg #[.slice none 0 0], .int .i64 1]) (by simp [results, Tryd.results7, x1, go_sem]) rfl ⟨none, 0, rfl, Nat.le_refl _, .inl rfl, ?_⟩
    first
      | exact B1.out
      | exact B1.out.setCell (by dsimp only; omega) _
  · rcases HR.out with ⟨h, _⟩ | ⟨t', y', hRR⟩
    · exact absurd hy (okL_none h t)
    obtain rfl := y'.unique hy
    clear y'
    rcases hRR with ⟨hs, rfl, rfl⟩ | ⟨hs, hQ⟩
    · obtain rfl : n = 0 := HRL.out.symm
      have HS : Hid (∀ W : World, Calls Tryd.prog 18 #[.int .i64 fr] W fun e w' => e = .returned (.bool false) ∧ W = w') := fun W => by
        have h := isPaneId_inB fr W
        rw [hs] at h
        exact h
      clear hs HR HRL ht hnd hge hy
      have x1 := box_cells X1.out 0
      have f1 := box_free X1.out 0
      simp only [List.getElem?_toArray, List.getElem?_cons_zero] at x1
      go_wp2_with (go_at_call 18; refine (HS.out _).mono ?_; rintro e w' ⟨rfl, rfl⟩)
      refine bodyPost_ret (v := .tuple #[.agg #[.slice none 0 0], .int .i64 4]) (by simp [results, Tryd.results7, x1, go_sem]) rfl ⟨none, 0, rfl, Nat.le_refl _, .inl rfl, ?_⟩
      first
        | exact B1.out
        | exact B1.out.setCell (by dsimp only; omega) _
    · have HS : Hid (∀ W : World, Calls Tryd.prog 18 #[.int .i64 fr] W fun e w' => e = .returned (.bool true) ∧ W = w') := fun W => by
        have h := isPaneId_inB fr W
        rw [hs] at h
        exact h
      obtain ⟨l1, l2, l3, l4⟩ := hy.len
      have HY := Lib.hid hy
      have HT := Lib.hid ht
      have HGE := Lib.hid hge
      have HND := Lib.hid hnd
      clear HR hy ht hge hnd
      obtain ⟨b1, b2, hQ⟩ := hQ
      clear hs
      obtain ⟨t2, hO, rfl⟩ := hQ
      have HK := Lib.hid (split_any HY.out s w1 HT.out HND.out pn fr rws t2 cd hO)
      have hy2 := splitO_ok HY.out b1 b2 hO
      obtain ⟨m1, m2, m3, m4⟩ := hy2.len
      have HOK := Lib.hid hy2.okP
      have HLN : Hid (t2.len = n) := by have := HRL.out; rw [Tr.length_parts] at this; exact this
      clear hO hy2 m3
      go_wp2_with (first | (go_at_call 18; refine (HS.out _).mono ?_; rintro e w' ⟨rfl, rfl⟩) | fail)
      refine HK.out.mono ?_
      rintro e w2 ⟨rfl, ⟨s2, ht2, hs2⟩, ho2⟩
      have hb2 : Below V.heap.size w1 w2 := ho2.below HGE.out hz1
      have hz2 : w1.heap.size ≤ w2.heap.size := hb2.size
      replace X0 := Lib.hid (box_below X0.out hb2 (by omega))
      replace X1 := Lib.hid (box_below X1.out hb2 (by omega))
      replace B1 : Hid (Below w.heap.size w w2) := B1.out.trans (hb2.mono (by omega))
      have HL := Lib.hid (layoutOf_any t2 s2 w2 ht2 HOK.out (by omega))
      rw [hs2] at HL
      clear ht2 hs2 ho2 hb2 HK HGE
      go_wp2_with fail
      refine HL.out.mono ?_
      rintro e w3 ⟨a3, c3, rfl, hc3, hm3, hb3⟩
      rw [HLN.out] at hc3 ⊢
      replace X1 := Lib.hid (box_below X1.out hb3 (by omega))
      replace B1 : Hid (Below w.heap.size w w3) := B1.out.trans (hb3.mono (by omega))
      have HM : Hid (Mine w2.heap.size w3 a3 (partsV (t2.parts 0))) := hm3
      have HC3 := Lib.hid hc3
      have x1 := box_cells X1.out 0
      have f1 := box_free X1.out 0
      simp only [List.getElem?_toArray, List.getElem?_cons_zero] at x1
      clear hb3 hm3 hc3 HL
      go_wp2
      refine bodyPost_ret (v := .tuple #[.agg #[.slice a3 n c3], .int .i64 cd]) (by simp [results, Tryd.results7, x1, go_sem]) rfl ⟨a3, c3, rfl, HC3.out, ?_, ?_⟩
      · exact (HM.out.set_oth (by dsimp only; omega) _).mono (by omega)
      · exact B1.out.setCell (by dsimp only; omega) _
end Go.Proofs.YtaacccooidehlaaDoor
namespace Go.Proofs.YtaacccooidehlaaDoor
open Go.RowKit
set_option linter.unusedVariables false
set_option linter.unusedSimpArgs false
theorem Tr.fit_id : ∀ (t : Tr) (w h : Int), t.fits w h → t.fit w h = t
  | .leaf p, w, h, f => rfl
  | .node rows size l r, w, h, f => by
    have h1 := Tr.fits_need f.1
    have h2 := Tr.fits_need f.2
    have hs : sizeFit rows size l r w h = size := by
      cases rows <;> simp only [lwOf, lhOf, rwOf, rhOf, sizeFit, Bool.false_eq_true, if_false, if_true] at h1 h2 ⊢ <;> omega
    rw [Tr.fit, hs, l.fit_id _ _ f.1, r.fit_id _ _ f.2]
theorem Tr.split_node {p fresh : Int} {rw_ : Bool} {t : Tr} {w h : Int} {q : Int} (hq : q ∉ t.panes) : (t.split p fresh rw_ w h).isL q = false := by
  cases t with
  | leaf a =>
    simp only [Tr.split]
    split
    · rfl
    · simp only [Tr.panes, List.mem_singleton] at hq
      simp only [Tr.isL, decide_eq_false_iff_not]
      exact fun e => hq e.symm
  | node _ _ _ _ => rfl
theorem Tr.kill_split {p fresh : Int} {rw_ : Bool} : ∀ {t : Tr} {w h : Int}, fresh ∉ t.panes → t.panes.Nodup → (t.split p fresh rw_ w h).kill fresh = t
  | .leaf q, w, h, hf, hn => by
    simp only [Tr.panes, List.mem_singleton] at hf
    simp only [Tr.split]
    by_cases e : q = p
    · subst e
      have e1 : (Tr.leaf q).isL fresh = false := by simp only [Tr.isL, decide_eq_false_iff_not]; exact fun e => hf e.symm
      have e2 : (Tr.leaf fresh).isL fresh = true := by simp [Tr.isL]
      rw [if_pos rfl, Tr.kill, e1, e2]
      rfl
    · rw [if_neg e]; rfl
  | .node rows size l r, w, h, hf, hn => by
    simp only [Tr.panes, List.mem_append, not_or] at hf
    obtain ⟨n1, n2, n3⟩ := List.nodup_append.1 hn
    simp only [Tr.split, Tr.kill, Tr.split_node hf.1, Tr.split_node hf.2, Bool.false_eq_true, if_false, Tr.kill_split hf.1 n1, Tr.kill_split hf.2 n2]
end Go.Proofs.YtaacccooidehlaaDoor
namespace Go.Proofs.YtaacccooidehlaaDoor
open Go.ChangeShapes Go.WideShapes Go.ChangeAt Go.RowKit
set_option linter.unusedVariables false
set_option linter.unusedSimpArgs false
set_option maxRecDepth 100000
def MkPost (W H : Int) (w : World) (e : Ending) (w' : World) : Prop :=
  ∃ (ao : Option Addr) (n cap : Nat) (ps : List PartV) (t : Tr), e = .returned (.agg #[.slice ao n cap]) ∧ LayM W H ps n cap t ∧ Mine w.heap.size w' ao (partsV ps) ∧ Below w.heap.size w w'
theorem mkLayout_any (w : World) (a : Option Addr) (len cap : Nat) (l : List UInt8) (ha : At w a (u8s l)) (hl : l.length = len) (hs : len ≤ 1048576) (W H : Int) (hw1 : 2 ≤ W) (hw2 : W ≤ 24) (hh1 : 2 ≤ H) (hh2 : H ≤ 10) :
    Calls Tryd.prog 5 #[.slice a len cap, .int .i64 W, .int .i64 H] w (MkPost W H w) := by
  obtain ⟨V, hV⟩ : ∃ V, (w.alloc (.cells #[.slice none 0 0] 26)) = V := ⟨_, rfl⟩
  have hA0 : Below w.heap.size w V := by rw [← hV]; exact (Below.refl _ _).alloc (Nat.le_refl _) _
  have hz : V.heap.size = w.heap.size + 1 := by rw [← hV]; simp
  have m0 : V.heap[w.heap.size]? = some (.cells #[.slice none 0 0] 26 (0, 0)) := by rw [← hV]; exact heap_alloc_new w _
  have haV : At V a (u8s l) := ha.below hA0 (Nat.le_refl _)
  have hb0 : Below V.heap.size V (V.alloc (.cells #[.slice a len cap, .int .i64 0, .int .i64 ((len : Int) % 1000)] 59)) := (Below.refl _ _).alloc (Nat.le_refl _) _
  have hS : Hid (Src (V.alloc (.cells #[.slice a len cap, .int .i64 0, .int .i64 ((len : Int) % 1000)] 59)) V.heap.size a cap l 0) := by
    refine ⟨len % 1000, by omega, ?_, haV.below hb0 (Nat.le_refl _), ?_⟩
    · rw [heap_alloc_new, hl]; simp
    · rcases haV with h | ⟨b1, o1, rfl, hc⟩
      · exact .inl h
      · by_cases he : u8s l = []
        · exact .inl he
        · refine .inr fun x hx => ?_
          cases hx
          have := World.block_lt_of_cell? V _ (hc 0 (List.length_pos_iff.2 he))
          show b1 ≠ V.heap.size
          have h2 : b1 < V.heap.size := this
          omega
  have HL := Lib.hid hl
  have HZ := Lib.hid hz
  have M0 := Lib.hid m0
  have HA0 := Lib.hid hA0
  have HB0 := Lib.hid hb0
  clear hl ha haV hz m0 hA0 hb0
  subst hV
  go_enter Tryd.func5, Tryd.ntmps5
  go_wp2_with fail
  generalize (w.alloc (.cells #[.slice none 0 0] 26)) = V at *
  refine (source_any V a len cap).mono ?_
  rintro e w1 ⟨rfl, rfl⟩
  go_wp2_with fail
  refine (layout_any _ V.heap.size a cap l hS.out (by have := HL.out; omega) W H hw1 hw2 hh1 hh2).mono ?_
  rintro e w2 ⟨ao, n, c, ps, t, rfl, h1, h4, h5⟩
  have hzV := HZ.out
  have hb2 : Below V.heap.size V w2 := HB0.out.grown h5 (by simp) (fun k hk => by cases hk; exact Nat.le_refl _)
  have X := box_below M0.out hb2 (by omega)
  have x := box_cells X 0
  have f := box_free X 0
  simp only [List.getElem?_toArray, List.getElem?_cons_zero] at x
  have BB : Hid (Below w.heap.size w w2) := HA0.out.trans (hb2.mono (by omega))
  have HM : Hid (Mine V.heap.size w2 ao (partsV ps)) := h4.mono (by simp)
  have HH := Lib.hid h1
  clear h1 h4 h5 hb2 X
  go_wp2_with fail
  refine bodyPost_ret (v := .agg #[.slice ao n c]) (by simp [results, Tryd.results5, x, go_sem]) rfl ⟨ao, n, c, ps, t, rfl, HH.out, ?_, ?_⟩
  · exact (HM.out.set_oth (by dsimp only; omega) _).mono (by omega)
  · exact BB.out.setCell (by dsimp only; omega) _
set_option maxHeartbeats 1000000 in
/-- sameParts: true of equal parts -/
theorem sameParts_same (a b : Option Addr) (n c c' : Nat) (l : List PartV) (w : World) (ha : At w a (partsV l)) (hb : At w b (partsV l)) (hl : l.length = n) (hn : n ≤ 16777216) :
    Calls Tryd.prog 9 #[.agg #[.slice a n c], .agg #[.slice b n c']] w fun e w' => e = .returned (.bool true) ∧ Below w.heap.size w w' := by
  have HL := Lib.hid hl
  have hA0 : Below w.heap.size w ((w.alloc (.cells #[.slice a n c] 26)).alloc (.cells #[.slice b n c'] 26)) := ((Below.refl _ _).alloc (Nat.le_refl _) _).alloc (by simp) _
  have m0 : ((w.alloc (.cells #[.slice a n c] 26)).alloc (.cells #[.slice b n c'] 26)).heap[w.heap.size]? = some (.cells #[.slice a n c] 26 (0, 0)) := by rw [Below.heap_alloc _ _ _ (by simp)]; exact heap_alloc_new w _
  have m1 : ((w.alloc (.cells #[.slice a n c] 26)).alloc (.cells #[.slice b n c'] 26)).heap[w.heap.size + 1]? = some (.cells #[.slice b n c'] 26 (0, 0)) := by
    have := heap_alloc_new (w.alloc (.cells #[.slice a n c] 26)) (.cells #[.slice b n c'] 26)
    rw [World.size_alloc] at this; exact this
  have HA := Lib.hid (ha.below hA0 (Nat.le_refl _))
  have HB := Lib.hid (hb.below hA0 (Nat.le_refl _))
  have HA0 := Lib.hid hA0
  have M0 := Lib.hid m0
  have M1 := Lib.hid m1
  have x0 := box_cells m0 0
  have x1 := box_cells m1 0
  simp only [List.getElem?_toArray, List.getElem?_cons_zero] at x0 x1
  clear ha hb hl hA0 m0 m1
  go_enter Tryd.func9, Tryd.ntmps9
  go_wp2_with fail
  generalize ((w.alloc (.cells #[.slice a n c] 26)).alloc (.cells #[.slice b n c'] 26)) = V at *
  have HLT : Hid (w.heap.size < V.heap.size ∧ w.heap.size + 1 < V.heap.size) := ⟨box_lt M0.out, box_lt M1.out⟩
  clear x0 x1
  go_loopw [5] (fun i wr => ∃ k : Nat, k ≤ n ∧ i = .int .i64 k ∧ Below V.heap.size V wr) (fun i _ => n - (intOf i).toNat)
  case atStart => exact ⟨0, Nat.zero_le _, rfl, Below.refl _ _⟩
  case round =>
    obtain ⟨k, hk, rfl, hbel⟩ := hrel
    have y0 := box_cells (box_below M0.out hbel HLT.out.1) 0
    have y1 := box_cells (box_below M1.out hbel HLT.out.2) 0
    simp only [List.getElem?_toArray, List.getElem?_cons_zero] at y0 y1
    by_cases hkt : k < n
    · obtain ⟨p, hp⟩ : ∃ p, l[k]? = some p := ⟨l[k]'(by have := HL.out; omega), List.getElem?_eq_getElem _⟩
      obtain ⟨b1, o1, rfl, c0, c1, c2, c3, c4⟩ := (HA.out.below hbel (Nat.le_refl _)).part hp
      obtain ⟨b2, o2, rfl, d0, d1, d2, d3, d4⟩ := (HB.out.below hbel (Nat.le_refl _)).part hp
      obtain ⟨pane, rows, size, left, right⟩ := p
      simp only at c0 c1 c2 c3 c4 d0 d1 d2 d3 d4
      have i1 : (0 : Int) ≤ (k : Int) := by omega
      have i2 : (k : Int) < (n : Int) := by omega
      clear hp
      go_wp2_with fail
      go_quiet (fail)
      go_wp2
      go_roundw
      case rel => exact ⟨k + 1, by omega, by go_num, hbel.trans ⟨rfl, rfl, rfl, Nat.le_refl _, fun _ _ => rfl⟩⟩
      case measure => simp [intOf] <;> omega
    · go_wp2
      go_ret
      exact ⟨rfl, HA0.out.trans (hbel.mono (by have := HLT.out; omega))⟩
end Go.Proofs.YtaacccooidehlaaDoor
