/-
  Contracts of NewScreen of the given program and of its reference. No condition.
-/
import Derived.Test.YtfdodbkopbmjeaaNewScr
namespace Go.Proofs.Ytfdodbkopbmjeaa
open Go.ChangeShapes Go.WideShapes Go.ChangeAt Go.RowKit
set_option linter.unusedVariables false
set_option linter.unusedSimpArgs false
set_option maxRecDepth 100000
attribute [local irreducible] wpList

/-- a screen and a code, in memory of the call's own -/
def ScrPost (w : World) (wd ht x y lk tp bt sx sy : Int) (ti : ByteArray) (lenC : Nat) (cs : List (Int × Int)) (lenH : Nat) (hs : List ByteArray) (cd : Int) (e : Ending) (w' : World) : Prop :=
  ∃ aC c aH d, e = .returned (.tuple #[.agg #[.int .i64 wd, .int .i64 ht, .int .i64 x, .int .i64 y, .int .i64 lk, .int .i64 tp, .int .i64 bt, .int .i64 sx, .int .i64 sy, .string ti, .slice aC lenC c, .slice aH lenH d], .int .i64 cd]) ∧ lenC ≤ c ∧ Apart aC (cellsV cs) aH (strs hs) ∧ Mine w.heap.size w' aC (cellsV cs) ∧ Mine w.heap.size w' aH (strs hs) ∧ Below w.heap.size w w'

set_option maxHeartbeats 1000000 in
theorem l04New_any (wd ht : Int) (n : Nat) (w : World) (hs : sizeB wd ht = true) (hn : wd * ht = (n : Int)) :
    Calls Try.prog 29 #[.int .i64 wd, .int .i64 ht] w fun e w' => ∃ ao cap aH, e = .returned (.agg #[.int .i64 wd, .int .i64 ht, .int .i64 0, .int .i64 0, .int .i64 0, .int .i64 0, .int .i64 (ht - 1), .int .i64 0, .int .i64 0, .string ⟨#[]⟩, .slice ao n cap, .slice aH 0 0]) ∧ n ≤ cap ∧ Mine w.heap.size w' ao (cellsV (List.replicate n (32, 0))) ∧ Below w.heap.size w w' := by
  obtain ⟨b1, b2, b3, b4, b5, b6⟩ := size_facts hs
  have HN := Lib.hid hn
  have hb0 : Below w.heap.size w (w.alloc (.cells #[.int .i64 0, .int .i64 0, .int .i64 0, .int .i64 0, .int .i64 0, .int .i64 0, .int .i64 0, .int .i64 0, .int .i64 0, .string ⟨#[]⟩, .slice none 0 0, .slice none 0 0] 29)) := (Below.refl _ _).alloc (Nat.le_refl _) _
  clear hs hn
  go_enter Try.func29, Try.ntmps29
  go_wp2_with fail
  refine (l04Blank_any _ n _ HN.out (by have := HN.out; omega)).mono ?_
  rintro e w1 ⟨ao, cap, rfl, hcap, hm, hb1⟩
  have hz1 : w.heap.size + 1 ≤ w1.heap.size := by have := hb1.size; simpa using this
  have HM : Hid (Mine (w.heap.size + 1) (w1.alloc (.cells #[] 9)) ao (cellsV (List.replicate n (32, 0)))) := by
    have := hm; simp at this
    exact this.below ((Below.refl w1.heap.size w1).alloc (Nat.le_refl _) _) (Nat.le_refl _)
  have X1 := box_below (box_new w (.cells #[.int .i64 0, .int .i64 0, .int .i64 0, .int .i64 0, .int .i64 0, .int .i64 0, .int .i64 0, .int .i64 0, .int .i64 0, .string ⟨#[]⟩, .slice none 0 0, .slice none 0 0] 29)) hb1 (by simp)
  have X2 : (w1.alloc (.cells #[] 9)).heap[w.heap.size]? = some (.cells #[.int .i64 0, .int .i64 0, .int .i64 0, .int .i64 0, .int .i64 0, .int .i64 0, .int .i64 0, .int .i64 0, .int .i64 0, .string ⟨#[]⟩, .slice none 0 0, .slice none 0 0] 29 (0, 0)) := (Below.heap_alloc w1 _ w.heap.size (by omega)).trans X1
  have x2 := box_cells X2
  have f2 := box_free X2
  have B1 : Below w.heap.size w (w1.alloc (.cells #[] 9)) := (hb0.trans (hb1.mono (by simp))).alloc (by omega) _
  clear X1 X2 hm hb1 hb0
  go_wp2
  exact bodyPost_ret (v := .agg #[.int .i64 wd, .int .i64 ht, .int .i64 0, .int .i64 0, .int .i64 0, .int .i64 0, .int .i64 (ht - 1), .int .i64 0, .int .i64 0, .string ⟨#[]⟩, .slice ao n cap, .slice (some ⟨w1.heap.size, 0, none⟩) 0 0]) (by simp [results, Try.results29, x2, go_sem]) rfl ⟨ao, cap, _, rfl, hcap, (set12_mine HM.out (by omega) _ _ _ _ _ _ _ _ _ _ _ _).mono (by omega), set12_below B1 (by omega) _ _ _ _ _ _ _ _ _ _ _ _⟩

def newN (wd ht : Int) : Nat := if sizeB wd ht then (wd * ht).toNat else 0
def newI (wd ht v : Int) : Int := if sizeB wd ht then v else 0
theorem newN_le (wd ht : Int) : newN wd ht ≤ 240 := by
  unfold newN
  split
  · rename_i h; obtain ⟨_, _, _, _, _, _⟩ := size_facts h; omega
  · omega

end Go.Proofs.Ytfdodbkopbmjeaa
