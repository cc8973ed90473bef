/-
  What the contracts of readScreen and l04Read share. Conditions: bounds on what is handed in.
-/
import Derived.Test.YtfabclhcceooaaaRsPlain
import Derived.Test.YtfabclhcceooaaaScrBytes
import Derived.Test.YtfabclhcceooaaaRsF
import Derived.BigRegion
import Derived.Deep.RegionHeld3
import Derived.Deep.RegionLaw
import Derived.Deep.AppendLies
namespace Go.Proofs.Ytfabclhcceooaaa
open Go.ChangeShapes Go.WideShapes Go.ChangeAt Go.RowKit
set_option linter.unusedVariables false
set_option linter.unusedSimpArgs false
set_option maxRecDepth 100000
attribute [local irreducible] wpList

theorem someNine_any (s : ByteArray) (b : Bool) (w : World) (hs : s.size ≤ 65536) (hb : decide (s.size = 27) = b) :
    Calls Try.prog 106 #[.string s, .int .i64 9] w fun e w' => ∃ ao n cap, e = .returned (.tuple #[.slice ao n cap, .bool b]) ∧ (b = true → n = 9 ∧ Mine w.heap.size w' ao (i64s (readL 9 s.data.toList))) ∧ Below w.heap.size w w' := by
  cases b with
  | false =>
    have h1 : ((s.size : Int) != 27) = true := by have := of_decide_eq_false hb; simp; omega
    clear hb
    go_enter Try.func106, Try.ntmps106
    go_wp2
    go_ret2
    exact ⟨none, 0, 0, rfl, fun h => by (cases h), Below.refl _ _⟩
  | true =>
    have h := of_decide_eq_true hb
    have h1 : ((s.size : Int) != 27) = false := by simp; omega
    have H := Lib.hid h
    clear h hb
    go_enter Try.func106, Try.ntmps106
    go_wp2_with fail
    refine (readNumbers_any s 9 _ H.out (by omega)).mono ?_
    rintro e w1 ⟨ao, cap, rfl, hm, hb⟩
    go_wp2
    go_ret2
    exact ⟨ao, 9, cap, rfl, fun _ => ⟨rfl, hm⟩, hb⟩

def RsPost (w : World) (o : Option ScrD) (e : Ending) (w' : World) : Prop :=
  ∃ (wd ht x y lk tp bt sx sy : Int) (ti : ByteArray) (aC : Option Addr) (nC cC : Nat) (aH : Option Addr) (nH cH : Nat), e = .returned (.tuple #[.agg #[.int .i64 wd, .int .i64 ht, .int .i64 x, .int .i64 y, .int .i64 lk, .int .i64 tp, .int .i64 bt, .int .i64 sx, .int .i64 sy, .string ti, .slice aC nC cC, .slice aH nH cH], .bool o.isSome]) ∧
    (∀ d, o = some d → ScrD.mk wd ht x y lk tp bt sx sy ti d.cs d.hs = d ∧ d.cs.length = nC ∧ nC ≤ cC ∧ d.hs.length = nH ∧ Apart aC (cellsV d.cs) aH (strs d.hs) ∧ Mine w.heap.size w' aC (cellsV d.cs) ∧ Mine w.heap.size w' aH (strs d.hs)) ∧ Below w.heap.size w w'
theorem rsPost_none {w : World} {o : Option ScrD} {e : Ending} {w' : World} (ho : o = none) (he : e = .returned (.tuple #[.agg #[.int .i64 0, .int .i64 0, .int .i64 0, .int .i64 0, .int .i64 0, .int .i64 0, .int .i64 0, .int .i64 0, .int .i64 0, .string ⟨#[]⟩, .slice none 0 0, .slice none 0 0], .bool false])) (hB : Below w.heap.size w w') : RsPost w o e w' := by
  subst ho
  exact ⟨0, 0, 0, 0, 0, 0, 0, 0, 0, ⟨#[]⟩, none, 0, 0, none, 0, 0, he, fun d h => by (cases h), hB⟩
theorem rdI_none {s : ByteArray} (h : fieldsF s = none) : rdI s = none := by rw [rdI, h]
theorem rdI_few {s : ByteArray} {zs : List ByteArray} (h : fieldsF s = some zs) (hl : zs.length < 3) : rdI s = none := by
  rw [rdI, h]
  match zs, hl with
  | [], _ => rfl
  | [_], _ => rfl
  | [_, _], _ => rfl
theorem rdI_size {s s0 s1 s2 : ByteArray} {rows : List ByteArray} (h : fieldsF s = some (s0 :: s1 :: s2 :: rows)) (hl : s0.size ≠ 27) : rdI s = none := by
  rw [rdI, h]; show (if s0.size = 27 then _ else none) = _; rw [if_neg hl]
theorem rdI_hist {s s0 s1 s2 : ByteArray} {rows : List ByteArray} (h : fieldsF s = some (s0 :: s1 :: s2 :: rows)) (hH : fieldsF s2 = none) : rdI s = none := by
  rw [rdI, h]; show (if s0.size = 27 then _ else none) = _
  split
  · show (match fieldsF s2 with | some hs => _ | none => none) = _
    rw [hH]
  · rfl
theorem rdI_main {s s0 s1 s2 : ByteArray} {rows hs : List ByteArray} {a0 a1 a2 a3 a4 a5 a6 a7 a8 : Int} (h : fieldsF s = some (s0 :: s1 :: s2 :: rows)) (hl : s0.size = 27) (hH : fieldsF s2 = some hs) (hn : readL 9 s0.data.toList = [a0, a1, a2, a3, a4, a5, a6, a7, a8]) :
    rdI s = if scrB a0 a1 a2 a3 a4 a5 a6 a7 a8 s1 (rowsV rows) hs = true ∧ scrL a0 a1 a2 a3 a4 a5 a6 a7 a8 s1 (rowsV rows) hs = s.data.toList then some (ScrD.mk a0 a1 a2 a3 a4 a5 a6 a7 a8 s1 (rowsV rows) hs) else none := by
  rw [rdI, h]; show (if s0.size = 27 then _ else none) = _
  rw [if_pos hl]
  show (match fieldsF s2 with | some hs => _ | none => none) = _
  rw [hH]
  show (scrOf (readL 9 s0.data.toList) s1 (rowsV rows) hs).bind _ = _
  rw [hn]
  rfl
theorem rowsV_take (zs : List ByteArray) (k : Nat) (h : k < zs.length) : rowsV (zs.take (k + 1)) = rowsV (zs.take k) ++ unC (zs[k].size / 4) zs[k].data.toList := by
  unfold rowsV
  rw [List.take_succ_eq_append_getElem h, List.flatMap_append]
  show _ ++ (_ ++ []) = _
  rw [List.append_nil]
theorem cellsV_one_more (cs : List (Int × Int)) (c : Int × Int) : cellsV (cs ++ [c]) = cellsV cs ++ [.int .i64 c.1, .int .i64 c.2] := by rw [cellsV_append]; rfl
theorem three_more (l : List ByteArray) (h : ¬ l.length < 3) : ∃ a b c t, l = a :: b :: c :: t := by
  match l, h with
  | a :: b :: c :: t, _ => exact ⟨_, _, _, _, rfl⟩
  | [], h => exact absurd (by simp) h
  | [_], h => exact absurd (by simp) h
  | [_, _], h => exact absurd (by simp) h

theorem rs_arm {sb m cap nH cH : Nat} {wr V : World} {a0 a1 a2 a3 a4 a5 a6 a7 a8 u c : Int} {s1 : ByteArray} {aC aH : Option Addr} {xs : List Value}
    (gs : wr.heap[sb]? = some (.cells #[.int .i64 a0, .int .i64 a1, .int .i64 a2, .int .i64 a3, .int .i64 a4, .int .i64 a5, .int .i64 a6, .int .i64 a7, .int .i64 a8, .string s1, .slice aC m cap, .slice aH nH cH] 42)) (hown : wr.ownsRow (sb + 1) 76 2 (.slice aC m cap) m xs) (hB : Below sb V wr) (hV : sb < V.heap.size) :
    ∀ (g2 cap2 : Nat) (w2 : World), w2.ownsRow (sb + 1) 76 2 (.slice (some ⟨g2, 0, none⟩) (m + 1) cap2) (m + 1) (xs ++ [.int .i64 u, .int .i64 c]) → (wr.alloc (.cells #[.int .i64 u, .int .i64 c] 76)).drew.grownBy w2 (Value.slice aC m cap).ownBlock → ∃ w3, w2.setCell ⟨sb, 10, none⟩ (.slice (some ⟨g2, 0, none⟩) (m + 1) cap2) = w3 ∧ (∀ i, w2.cell? ⟨sb, i, none⟩ = (#[.int .i64 a0, .int .i64 a1, .int .i64 a2, .int .i64 a3, .int .i64 a4, .int .i64 a5, .int .i64 a6, .int .i64 a7, .int .i64 a8, .string s1, .slice aC m cap, .slice aH nH cH] : Array Value)[i]?) ∧ (∀ i, w2.frozen? ⟨sb, i, none⟩ = false) ∧ Hid (w3.heap[sb]? = some (.cells #[.int .i64 a0, .int .i64 a1, .int .i64 a2, .int .i64 a3, .int .i64 a4, .int .i64 a5, .int .i64 a6, .int .i64 a7, .int .i64 a8, .string s1, .slice (some ⟨g2, 0, none⟩) (m + 1) cap2, .slice aH nH cH] 42)) ∧ Hid (w3.ownsRow (sb + 1) 76 2 (.slice (some ⟨g2, 0, none⟩) (m + 1) cap2) (m + 1) (xs ++ [.int .i64 u, .int .i64 c])) ∧ Hid (m + 1 ≤ cap2) ∧ Hid (Below sb V w3) ∧ V.heap.size ≤ w3.heap.size := by
  intro g2 cap2 w2 hown2 hgrow2
  have hz := hB.size
  have P2 := (hgrow2.block sb (by show sb < (wr.alloc _).heap.size; simp; omega) (fun h => by have := (hown.lt sb h.symm).1; omega)).trans ((Below.heap_alloc wr _ sb (by omega)).trans gs)
  have hB2 : Below sb V w2 := (hB.alloc (by omega) _).drew.grown hgrow2 (by show sb ≤ (wr.alloc _).heap.size; simp; omega) (fun j hj => by have := (hown.lt j hj).1; omega)
  have hz2 : V.heap.size ≤ w2.heap.size := hB2.size
  have hc2 : m + 1 ≤ cap2 := own_cap hown2
  obtain ⟨w3, e3⟩ : ∃ W, w2.setCell ⟨sb, 10, none⟩ (.slice (some ⟨g2, 0, none⟩) (m + 1) cap2) = W := ⟨_, rfl⟩
  have P3 : w3.heap[sb]? = some (.cells #[.int .i64 a0, .int .i64 a1, .int .i64 a2, .int .i64 a3, .int .i64 a4, .int .i64 a5, .int .i64 a6, .int .i64 a7, .int .i64 a8, .string s1, .slice (some ⟨g2, 0, none⟩) (m + 1) cap2, .slice aH nH cH] 42) := by rw [← e3, heap_setCell_same w2 sb 10 _ _ _ P2]; simp
  refine ⟨w3, e3, box_cells P2, box_free P2, P3, ?_, hc2, ?_, ?_⟩
  · show World.ownsRow _ _ _ _ _ _ _; rw [← e3]; exact ownsRow_setCell_below hown2 (a := ⟨sb, 10, none⟩) (show sb < sb + 1 by omega) _
  · show Below _ _ _; rw [← e3]; exact hB2.setCell (p := ⟨sb, 10, none⟩) (Nat.le_refl _) _
  · rw [← e3]; simpa [World.setCell] using hz2

end Go.Proofs.Ytfabclhcceooaaa
