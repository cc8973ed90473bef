/-
  Contracts of NewScreen of the given program and of its reference. No condition.
-/
import Derived.Test.YtfpbboldfilhlaaDoorNewScr
namespace Go.Proofs.YtfpbboldfilhlaaDoor
open Go.ChangeShapes Go.WideShapes Go.ChangeAt Go.RowKit
set_option linter.unusedVariables false
set_option linter.unusedSimpArgs false
set_option maxRecDepth 100000
attribute [local irreducible] wpList

/-- a screen and a code, in memory of the call's own -/
def NewPost (w : World) (wd ht x y lk tp bt sx sy : Int) (ti : ByteArray) (lenC : Nat) (cs : List (Int × Int)) (lenH : Nat) (hs : List ByteArray) (cd : Int) (e : Ending) (w' : World) : Prop :=
  ∃ aC c aH d, e = .returned (.tuple #[.agg #[.int .i64 wd, .int .i64 ht, .int .i64 x, .int .i64 y, .int .i64 lk, .int .i64 tp, .int .i64 bt, .int .i64 sx, .int .i64 sy, .string ti, .slice aC lenC c, .slice aH lenH d], .int .i64 cd]) ∧ lenC ≤ c ∧ Apart aC (cellsV cs) aH (strs hs) ∧ Mine w.heap.size w' aC (cellsV cs) ∧ Mine w.heap.size w' aH (strs hs) ∧ Below w.heap.size w w'

def newN (wd ht : Int) : Nat := if sizeB wd ht then (wd * ht).toNat else 0
def newI (wd ht v : Int) : Int := if sizeB wd ht then v else 0
theorem newN_le (wd ht : Int) : newN wd ht ≤ 240 := by
  unfold newN
  split
  · rename_i h; obtain ⟨_, _, _, _, _, _⟩ := size_facts h; omega
  · omega

set_option maxHeartbeats 2000000 in
theorem implNewScreen_any (wd ht : Int) (n : Nat) (q1 q2 q3 cd : Int) (w : World) (hn : newN wd ht = n) (h1 : newI wd ht wd = q1) (h2 : newI wd ht ht = q2) (h3 : newI wd ht (ht - 1) = q3) (h4 : (if sizeB wd ht then 0 else 4 : Int) = cd) :
    Calls Tryd.prog 5 #[.int .i64 wd, .int .i64 ht] w (NewPost w q1 q2 0 0 0 0 q3 0 0 ⟨#[]⟩ n (List.replicate n (32, 0)) 0 [] cd) := by
  have hb0 : Below w.heap.size w (w.alloc (.cells #[.int .i64 0, .int .i64 0, .int .i64 0, .int .i64 0, .int .i64 0, .int .i64 0, .int .i64 0, .int .i64 0, .int .i64 0, .string ⟨#[]⟩, .slice none 0 0, .slice none 0 0] 27)) := (Below.refl _ _).alloc (Nat.le_refl _) _
  cases hs : sizeB wd ht
  · have e0 : n = 0 := by rw [← hn, newN, hs]; rfl
    have e1 : q1 = 0 := by rw [← h1, newI, hs]; rfl
    have e2 : q2 = 0 := by rw [← h2, newI, hs]; rfl
    have e3 : q3 = 0 := by rw [← h3, newI, hs]; rfl
    have e4 : cd = 4 := by rw [← h4, hs]; rfl
    subst e0 e1 e2 e3 e4
    have HS := Lib.hid hs
    clear hn h1 h2 h3 h4 hs
    go_enter Tryd.func5, Tryd.ntmps5
    go_wp2_with fail
    refine (isSize_blw wd ht false _ HS.out).mono ?_
    rintro e w1 ⟨rfl, hb1⟩
    have X1 := box_below (box_new w (.cells #[.int .i64 0, .int .i64 0, .int .i64 0, .int .i64 0, .int .i64 0, .int .i64 0, .int .i64 0, .int .i64 0, .int .i64 0, .string ⟨#[]⟩, .slice none 0 0, .slice none 0 0] 27)) hb1 (by simp)
    have x1 := box_cells X1
    have f1 := box_free X1
    have B1 : Below w.heap.size w w1 := hb0.trans (hb1.mono (by simp))
    clear X1 hb1 hb0
    go_wp2
    exact bodyPost_ret (v := .tuple #[.agg #[.int .i64 0, .int .i64 0, .int .i64 0, .int .i64 0, .int .i64 0, .int .i64 0, .int .i64 0, .int .i64 0, .int .i64 0, .string ⟨#[]⟩, .slice none 0 0, .slice none 0 0], .int .i64 4]) (by simp [results, Tryd.results5, x1, go_sem]) rfl ⟨none, 0, none, 0, rfl, Nat.zero_le _, .inl rfl, .inl rfl, .inl rfl, set12_below B1 (Nat.le_refl _) _ _ _ _ _ _ _ _ _ _ _ _⟩
  · obtain ⟨b1, b2, b3, b4, b5, b6⟩ := size_facts hs
    have e0 : wd * ht = (n : Int) := by rw [← hn, newN, hs]; show _ = (((wd * ht).toNat : Nat) : Int); omega
    have e1 : wd = q1 := by rw [← h1, newI, hs]; rfl
    have e2 : ht = q2 := by rw [← h2, newI, hs]; rfl
    have e3 : ht - 1 = q3 := by rw [← h3, newI, hs]; rfl
    have e4 : cd = 0 := by rw [← h4, hs]; rfl
    subst e1 e2 e3 e4
    have HS := Lib.hid hs
    have HN := Lib.hid e0
    clear hn h1 h2 h3 h4 hs e0
    go_enter Tryd.func5, Tryd.ntmps5
    go_wp2_with fail
    refine (isSize_blw wd ht true _ HS.out).mono ?_
    rintro e w1 ⟨rfl, hb1⟩
    have hz1 : w.heap.size + 1 ≤ w1.heap.size := by have := hb1.size; simpa using this
    have X1 := Lib.hid (box_below (box_new w (.cells #[.int .i64 0, .int .i64 0, .int .i64 0, .int .i64 0, .int .i64 0, .int .i64 0, .int .i64 0, .int .i64 0, .int .i64 0, .string ⟨#[]⟩, .slice none 0 0, .slice none 0 0] 27)) hb1 (by simp))
    have B1 : Below w.heap.size w w1 := hb0.trans (hb1.mono (by simp))
    clear hb1 hb0
    go_wp2_with fail
    refine (newScreen_any wd ht n _ HS.out HN.out).mono ?_
    rintro e w2 ⟨ao, cap, rfl, hcap, hm, hb2⟩
    have HM : Hid (Mine (w.heap.size + 1) w2 ao (cellsV (List.replicate n (32, 0)))) := hm.mono (by omega)
    have X2 := box_below X1.out hb2 (by omega)
    have x2 := box_cells X2
    have f2 := box_free X2
    have B2 : Below w.heap.size w w2 := B1.trans (hb2.mono (by omega))
    clear X1 X2 hm hb2
    go_wp2
    exact bodyPost_ret (v := .tuple #[.agg #[.int .i64 wd, .int .i64 ht, .int .i64 0, .int .i64 0, .int .i64 0, .int .i64 0, .int .i64 (ht - 1), .int .i64 0, .int .i64 0, .string ⟨#[]⟩, .slice ao n cap, .slice none 0 0], .int .i64 0]) (by simp [results, Tryd.results5, x2, go_sem]) rfl ⟨ao, cap, none, 0, rfl, hcap, .inr (.inl rfl), (set12_mine HM.out (by omega) _ _ _ _ _ _ _ _ _ _ _ _).mono (by omega), .inl rfl, set12_below B2 (Nat.le_refl _) _ _ _ _ _ _ _ _ _ _ _ _⟩
end Go.Proofs.YtfpbboldfilhlaaDoor
