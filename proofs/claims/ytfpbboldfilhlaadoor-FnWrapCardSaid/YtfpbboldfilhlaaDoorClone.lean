/-
  Contracts of the given program's cloneParser and cloneScreen (a screen no row of which went). Conditions: the cells lie in memory.
-/
import Derived.Test.YtfpbboldfilhlaaDoorApMem
import Derived.Test.YtfpbboldfilhlaaDoorShelf
namespace Go.Proofs.YtfpbboldfilhlaaDoor
open Go.ChangeShapes Go.WideShapes Go.ChangeAt Go.RowKit
set_option linter.unusedVariables false
set_option linter.unusedSimpArgs false
set_option maxRecDepth 100000
attribute [local irreducible] wpList
theorem own_some {w : World} {B e size n : Nat} {v : Value} {xs : List Value} (h : w.ownsRow B e size v n xs) (hn : 0 < n) : ∃ g cap, v = .slice (some ⟨g, 0, none⟩) n cap := by
  rcases h.2 with ⟨_, h0⟩ | ⟨g, cap, cur, hv, _⟩
  · omega
  · exact ⟨g, cap, hv⟩
theorem own_any {w : World} {B e size n : Nat} {v : Value} {xs : List Value} (h : w.ownsRow B e size v n xs) : ∃ a cap, v = .slice a n cap := by
  rcases h.2 with ⟨rfl, rfl⟩ | ⟨g, cap, cur, hv, _⟩
  · exact ⟨none, 0, rfl⟩
  · exact ⟨_, cap, hv⟩
theorem own_hrow {w : World} {B e b gC n : Nat} {a : Option Addr} {cap : Nat} (h : w.ownsRow B e 1 (.slice a n cap) 0 []) (hb : b < B) (hg : gC < B) (B0 : Nat) (h0 : B0 ≤ B) : HRow B0 b gC w a cap [] := by
  rcases h.2 with ⟨hv, _⟩ | ⟨g, cap', cur, hv, h1, h2, h3, h4, h5, h6⟩
  · cases hv
    exact ⟨Nat.le_refl _, .inl ⟨rfl, rfl⟩⟩
  · cases hv
    refine ⟨Nat.zero_le _, .inr ⟨g, 0, rfl, fun _ => ⟨by omega, by omega, by omega⟩, fun i hi => ⟨⟨cur[i]'(by omega), ?_⟩, box_free h2 _⟩, fun i hi => absurd hi (by simp)⟩⟩
    rw [Nat.zero_add, box_cells h2, Array.getElem?_eq_getElem]
theorem cloneCells_any (b off n c : Nat) (cs : List (Int × Int)) (w : World) (hl : cs.length = n) (h0 : 0 < n) (hn : n ≤ 1048576) (hc : ∀ j u, (cellsV cs)[j]? = some u → w.cell? ⟨b, off + j, none⟩ = some u) :
    Calls Tryd.prog 30 #[.slice (some ⟨b, off, none⟩) n c] w fun e w' => ∃ g cap, e = .returned (.slice (some ⟨g, 0, none⟩) n cap) ∧ w'.ownsRow w.heap.size 57 2 (.slice (some ⟨g, 0, none⟩) n cap) n (cellsV cs) ∧ Below w.heap.size w w' := by
  obtain ⟨i0, hi, hz0, hz1, hz2⟩ := info_parts Tryd.info_cell
  have q24 : ∀ (w : World) (a : Option Addr) (n c n' c' : Nat), (binOp .eql 24 (.slice a n c) (.slice none n' c')).run Tryd.prog w = .ok (.bool a.isNone) w := fun w a n c n' c' => Lib.run_eql_slice_nil w _ _ a n c n' c' Tryd.underlying24
  have HC := Lib.hid hc
  have hl2 : (cellsV cs).length = n * 2 := by rw [length_cellsV]; omega
  clear hc
  go_enter Tryd.func30, Tryd.ntmps30
  go_wp2_with (at_builtin; refine wpList_append_own _ rfl _ _ 24 rfl w.heap.size 57 i0 (Value.agg #[.int .i64 0, .int .i64 0]) 2 16 Tryd.underlying24 hi hz0 hz1 hz2 rfl (by decide) _ _ _ rfl (World.ownsRow_made (base := w.heap.size) (size := 2) (e := 57) w #[] 0 (Nat.le_refl _) (Nat.zero_le _) rfl) ⟨b, off, none⟩ n c (cellsV cs) rfl hl2 ?qc2 (cellsV_one cs) ?qc4 ?qc5 ?qc6 ?_)
  case qc2 =>
    intro j u hj
    rw [Addr.add_lit]
    exact Lib.cell?_alloc_some _ (HC.out j u hj)
  case qc4 => unfold maxLen; omega
  case qc5 => omega
  case qc6 => simp
  intro v' w1 hown hgrow hnil
  go_wp2
  go_ret
  obtain ⟨g, cap, rfl⟩ := own_some hown h0
  exact ⟨g, cap, rfl, hown, ((Below.refl _ w).alloc (Nat.le_refl _) _).grown hgrow (by simp) (by intro k hk; simp [Value.ownBlock] at hk; omega)⟩
theorem cloneStr0_any (a : Option Addr) (c : Nat) (w : World) :
    Calls Tryd.prog 31 #[.slice a 0 c] w fun e w' => ∃ a' c', e = .returned (.slice a' 0 c') ∧ w'.ownsRow w.heap.size 9 1 (.slice a' 0 c') 0 [] ∧ Below w.heap.size w w' := by
  cases a with
  | none =>
    refine (Tryd.slices_Clone_string_nil 0 c w).mono ?_
    rintro e w' ⟨rfl, rfl⟩
    exact ⟨none, 0, rfl, World.ownsRow_nil _ _ _ _, Below.refl _ _⟩
  | some a =>
    refine (Tryd.slices_Clone_string_zero a c w).mono ?_
    rintro e w' ⟨v', rfl, hown, _, hb⟩
    obtain ⟨a', c', rfl⟩ := own_any hown
    exact ⟨a', c', rfl, hown, hb⟩
theorem cloneInt0_any (a : Option Addr) (c : Nat) (w : World) :
    Calls Tryd.prog 32 #[.slice a 0 c] w fun e w' => ∃ a' c', e = .returned (.slice a' 0 c') ∧ Below w.heap.size w w' := by
  cases a with
  | none =>
    refine (Tryd.slices_Clone_int_nil 0 c w).mono ?_
    rintro e w' ⟨rfl, rfl⟩
    exact ⟨none, 0, rfl, Below.refl _ _⟩
  | some a =>
    refine (Tryd.slices_Clone_int_zero a c w).mono ?_
    rintro e w' ⟨v', rfl, hown, _, hb⟩
    obtain ⟨a', c', rfl⟩ := own_any hown
    exact ⟨a', c', rfl, hb⟩
theorem cloneParser_any (a : Option Addr) (c : Nat) (w : World) :
    Calls Tryd.prog 15 #[.agg #[.int .i64 0, .slice a 0 c, .bool false, .string ⟨#[]⟩, .string ⟨#[]⟩]] w fun e w' => ∃ a' c', e = .returned (.agg #[.int .i64 0, .slice a' 0 c', .bool false, .string ⟨#[]⟩, .string ⟨#[]⟩]) ∧ Below w.heap.size w w' := by
  have B0 : Below w.heap.size w ((w.alloc (.cells #[.int .i64 0, .slice a 0 c, .bool false, .string ⟨#[]⟩, .string ⟨#[]⟩] 32)).alloc (.cells #[.int .i64 0, .slice none 0 0, .bool false, .string ⟨#[]⟩, .string ⟨#[]⟩] 32)) := ((Below.refl _ _).alloc (Nat.le_refl _) _).alloc (by simp) _
  have X0 : ((w.alloc (.cells #[.int .i64 0, .slice a 0 c, .bool false, .string ⟨#[]⟩, .string ⟨#[]⟩] 32)).alloc (.cells #[.int .i64 0, .slice none 0 0, .bool false, .string ⟨#[]⟩, .string ⟨#[]⟩] 32)).heap[w.heap.size]? = some (.cells #[.int .i64 0, .slice a 0 c, .bool false, .string ⟨#[]⟩, .string ⟨#[]⟩] 32 (0, 0)) := (Below.heap_alloc _ _ w.heap.size (by simp)).trans (box_new w _)
  have Y0 : ((w.alloc (.cells #[.int .i64 0, .slice a 0 c, .bool false, .string ⟨#[]⟩, .string ⟨#[]⟩] 32)).alloc (.cells #[.int .i64 0, .slice none 0 0, .bool false, .string ⟨#[]⟩, .string ⟨#[]⟩] 32)).heap[w.heap.size + 1]? = some (.cells #[.int .i64 0, .slice none 0 0, .bool false, .string ⟨#[]⟩, .string ⟨#[]⟩] 32 (0, 0)) := by
    have := box_new (w.alloc (.cells #[.int .i64 0, .slice a 0 c, .bool false, .string ⟨#[]⟩, .string ⟨#[]⟩] 32)) (.cells #[.int .i64 0, .slice none 0 0, .bool false, .string ⟨#[]⟩, .string ⟨#[]⟩] 32)
    simpa using this
  have HB0 := Lib.hid B0
  have HX0 := Lib.hid X0
  have HY0 := Lib.hid Y0
  clear B0 X0 Y0
  go_enter Tryd.func15, Tryd.ntmps15
  go_wp2_with fail
  refine (cloneInt0_any a c _).mono ?_
  rintro e w3 ⟨a', c', rfl, hb3⟩
  have hb3' := hb3
  simp only [World.size_alloc] at hb3'
  have X3 := box_below HX0.out hb3' (by omega)
  have Y3 := box_below HY0.out hb3' (by omega)
  have x3 := box_cells X3
  have f3 := box_free X3
  have y3 := box_cells Y3
  have g3 := box_free Y3
  have HB3 := Lib.hid (HB0.out.trans (hb3'.mono (by omega)))
  clear HX0 HY0 HB0 hb3 hb3' X3 Y3
  go_wp2
  refine bodyPost_ret (v := .agg #[.int .i64 0, .slice a' 0 c', .bool false, .string ⟨#[]⟩, .string ⟨#[]⟩]) (by simp [results, Tryd.results15, x3, y3, go_sem]) rfl ⟨a', c', rfl, ?_⟩
  exact (((((HB3.out.setCell (p := ⟨_, 1, none⟩) (Nat.le_refl _) _).setCell (p := ⟨_, 0, none⟩) (Nat.le_succ _) _).setCell (p := ⟨_, 1, none⟩) (Nat.le_succ _) _).setCell (p := ⟨_, 2, none⟩) (Nat.le_succ _) _).setCell (p := ⟨_, 3, none⟩) (Nat.le_succ _) _).setCell (p := ⟨_, 4, none⟩) (Nat.le_succ _) _
-- cloneScreen
structure CS (n0 : Nat) (ty : TypeId) (w : World) (cx cy : Array Value) (bC oC : Nat) (cs : List (Int × Int)) (w' : World) : Prop where
  below : Below n0 w w'
  bx : w'.heap[n0]? = some (.cells cx ty (0, 0))
  bY : w'.heap[n0 + 1]? = some (.cells cy ty (0, 0))
  c : ∀ j u, (cellsV cs)[j]? = some u → w'.cell? ⟨bC, oC + j, none⟩ = some u
theorem CS.next {n0 : Nat} {ty : TypeId} {w : World} {cx cy : Array Value} {bC oC : Nat} {cs : List (Int × Int)} {w' w2 : World} (h : CS n0 ty w cx cy bC oC cs w') (hb : Below w'.heap.size w' w2) : CS n0 ty w cx cy bC oC cs w2 :=
  have h1 := box_lt h.bY
  ⟨h.below.trans (hb.mono (by omega)), box_below h.bx hb (by omega), box_below h.bY hb h1, fun j u hj => (hb.cell (p := ⟨bC, oC + j, none⟩) (World.block_lt_of_cell? w' _ (h.c j u hj))).trans (h.c j u hj)⟩
theorem CS.drew {n0 : Nat} {ty : TypeId} {w : World} {cx cy : Array Value} {bC oC : Nat} {cs : List (Int × Int)} {w' : World} (h : CS n0 ty w cx cy bC oC cs w') : CS n0 ty w cx cy bC oC cs w'.drew := ⟨⟨h.below.os, h.below.tape, h.below.output, h.below.size, h.below.block⟩, h.bx, h.bY, h.c⟩
theorem CS.x {n0 : Nat} {ty : TypeId} {w : World} {cx cy : Array Value} {bC oC : Nat} {cs : List (Int × Int)} {w' : World} (h : CS n0 ty w cx cy bC oC cs w') : ∀ i, w'.cell? ⟨n0, i, none⟩ = cx[i]? := box_cells h.bx
theorem CS.f {n0 : Nat} {ty : TypeId} {w : World} {cx cy : Array Value} {bC oC : Nat} {cs : List (Int × Int)} {w' : World} (h : CS n0 ty w cx cy bC oC cs w') : ∀ i, w'.frozen? ⟨n0, i, none⟩ = false := box_free h.bx
theorem CS.y {n0 : Nat} {ty : TypeId} {w : World} {cx cy : Array Value} {bC oC : Nat} {cs : List (Int × Int)} {w' : World} (h : CS n0 ty w cx cy bC oC cs w') : ∀ i, w'.cell? ⟨n0 + 1, i, none⟩ = cy[i]? := box_cells h.bY
theorem CS.g {n0 : Nat} {ty : TypeId} {w : World} {cx cy : Array Value} {bC oC : Nat} {cs : List (Int × Int)} {w' : World} (h : CS n0 ty w cx cy bC oC cs w') : ∀ i, w'.frozen? ⟨n0 + 1, i, none⟩ = false := box_free h.bY
theorem own_next {w w' : World} {B e size n : Nat} {v : Value} {xs : List Value} (h : w.ownsRow B e size v n xs) (hb : Below w.heap.size w w') : w'.ownsRow B e size v n xs := h.kept (grownBy_of_below none hb) (by cases v.ownBlock <;> simp)
theorem own_mono {w : World} {B B' e size n : Nat} {v : Value} {xs : List Value} (h : w.ownsRow B e size v n xs) (hB : B' ≤ B) : w.ownsRow B' e size v n xs := ⟨h.1, h.2.imp id fun ⟨g, cap, cur, e1, e2, r⟩ => ⟨g, cap, cur, e1, by omega, r⟩⟩
theorem own_set {w : World} {B e size n : Nat} {v : Value} {xs : List Value} (h : w.ownsRow B e size v n xs) (b i : Nat) (u : Value) (hb : b < B) : (w.setCell ⟨b, i, none⟩ u).ownsRow B e size v n xs := by
  refine ⟨h.1, h.2.imp id fun ⟨g, cap, cur, e1, e2, e3, r⟩ => ⟨g, cap, cur, e1, e2, (Below.heap_setCell _ _ _ _ (by dsimp only; omega)).trans e3, r⟩⟩
/-- what cloneScreen leaves -/
structure CE (n0 B : Nat) (tC tS : TypeId) (w : World) (cs : List (Int × Int)) (g cap : Nat) (a : Option Addr) (d : Nat) (w' : World) : Prop where
  below : Below n0 w w'
  oc : w'.ownsRow B tC 2 (.slice (some ⟨g, 0, none⟩) cs.length cap) cs.length (cellsV cs)
  os : w'.ownsRow B tS 1 (.slice a 0 d) 0 []
theorem CE.set {n0 B : Nat} {tC tS : TypeId} {w : World} {cs : List (Int × Int)} {g cap : Nat} {a : Option Addr} {d : Nat} {w' : World} (h : CE n0 B tC tS w cs g cap a d w') (b i : Nat) (u : Value) (h1 : n0 ≤ b) (h2 : b < B) : CE n0 B tC tS w cs g cap a d (w'.setCell ⟨b, i, none⟩ u) :=
  ⟨h.below.setCell (p := ⟨b, i, none⟩) h1 _, own_set h.oc b i u h2, own_set h.os b i u h2⟩
theorem CE.drew {n0 B : Nat} {tC tS : TypeId} {w : World} {cs : List (Int × Int)} {g cap : Nat} {a : Option Addr} {d : Nat} {w' : World} (h : CE n0 B tC tS w cs g cap a d w') : CE n0 B tC tS w cs g cap a d w'.drew := ⟨⟨h.below.os, h.below.tape, h.below.output, h.below.size, h.below.block⟩, h.oc, h.os⟩
set_option maxHeartbeats 4000000 in
theorem cloneScreen_any {W H x y lk tp bt sx sy n bC oC c d : Nat} {ti : ByteArray} {aH : Option Addr} {cs : List (Int × Int)} (w : World) (hl : cs.length = n) (h0 : 0 < n) (hn : n ≤ 1048576) (hat : At w (some ⟨bC, oC, none⟩) (cellsV cs)) :
    Calls Tryd.prog 14 #[.agg #[.int .i64 (W : Int), .int .i64 (H : Int), .int .i64 (x : Int), .int .i64 (y : Int), .int .i64 (lk : Int), .int .i64 (tp : Int), .int .i64 (bt : Int), .int .i64 (sx : Int), .int .i64 (sy : Int), .string ti, .slice (some ⟨bC, oC, none⟩) n c, .slice aH 0 d]] w fun e w' => ∃ g cap aH' d', e = .returned (.agg #[.int .i64 (W : Int), .int .i64 (H : Int), .int .i64 (x : Int), .int .i64 (y : Int), .int .i64 (lk : Int), .int .i64 (tp : Int), .int .i64 (bt : Int), .int .i64 (sx : Int), .int .i64 (sy : Int), .string ti, .slice (some ⟨g, 0, none⟩) n cap, .slice aH' 0 d']) ∧ (∀ k o, aH' = some ⟨k, o, none⟩ → k ≠ g) ∧ CE w.heap.size (w.heap.size + 2) 57 9 w cs g cap aH' d' w' := by
  obtain ⟨b', o', he, hc⟩ := hat.get (by intro e; have := congrArg List.length e; rw [length_cellsV] at this; simp at this; omega)
  cases he
  subst hl
  have HS : Hid (CS w.heap.size 27 w #[.int .i64 (W : Int), .int .i64 (H : Int), .int .i64 (x : Int), .int .i64 (y : Int), .int .i64 (lk : Int), .int .i64 (tp : Int), .int .i64 (bt : Int), .int .i64 (sx : Int), .int .i64 (sy : Int), .string ti, .slice (some ⟨bC, oC, none⟩) cs.length c, .slice aH 0 d] #[.int .i64 0, .int .i64 0, .int .i64 0, .int .i64 0, .int .i64 0, .int .i64 0, .int .i64 0, .int .i64 0, .int .i64 0, .string ⟨#[]⟩, .slice none 0 0, .slice none 0 0] bC oC cs ((w.alloc (.cells #[.int .i64 (W : Int), .int .i64 (H : Int), .int .i64 (x : Int), .int .i64 (y : Int), .int .i64 (lk : Int), .int .i64 (tp : Int), .int .i64 (bt : Int), .int .i64 (sx : Int), .int .i64 (sy : Int), .string ti, .slice (some ⟨bC, oC, none⟩) cs.length c, .slice aH 0 d] 27)).alloc (.cells #[.int .i64 0, .int .i64 0, .int .i64 0, .int .i64 0, .int .i64 0, .int .i64 0, .int .i64 0, .int .i64 0, .int .i64 0, .string ⟨#[]⟩, .slice none 0 0, .slice none 0 0] 27))) := by
    refine ⟨((Below.refl _ _).alloc (Nat.le_refl _) _).alloc (by simp) _, (Below.heap_alloc _ _ w.heap.size (by simp)).trans (box_new w _), ?_, ?_⟩
    · have := box_new (w.alloc (.cells #[.int .i64 (W : Int), .int .i64 (H : Int), .int .i64 (x : Int), .int .i64 (y : Int), .int .i64 (lk : Int), .int .i64 (tp : Int), .int .i64 (bt : Int), .int .i64 (sx : Int), .int .i64 (sy : Int), .string ti, .slice (some ⟨bC, oC, none⟩) cs.length c, .slice aH 0 d] 27)) (.cells #[.int .i64 0, .int .i64 0, .int .i64 0, .int .i64 0, .int .i64 0, .int .i64 0, .int .i64 0, .int .i64 0, .int .i64 0, .string ⟨#[]⟩, .slice none 0 0, .slice none 0 0] 27)
      simpa using this
    · intro j u hj
      obtain ⟨hj', e⟩ := List.getElem?_eq_some_iff.1 hj
      exact Lib.cell?_alloc_some _ (Lib.cell?_alloc_some _ ((hc j hj').trans (by rw [e])))
  have hz : w.heap.size + 2 ≤ ((w.alloc (.cells #[.int .i64 (W : Int), .int .i64 (H : Int), .int .i64 (x : Int), .int .i64 (y : Int), .int .i64 (lk : Int), .int .i64 (tp : Int), .int .i64 (bt : Int), .int .i64 (sx : Int), .int .i64 (sy : Int), .string ti, .slice (some ⟨bC, oC, none⟩) cs.length c, .slice aH 0 d] 27)).alloc (.cells #[.int .i64 0, .int .i64 0, .int .i64 0, .int .i64 0, .int .i64 0, .int .i64 0, .int .i64 0, .int .i64 0, .int .i64 0, .string ⟨#[]⟩, .slice none 0 0, .slice none 0 0] 27)).heap.size := by simp
  have x0 := HS.out.x
  have f0 := HS.out.f
  go_enter Tryd.func14, Tryd.ntmps14
  go_wp2_with fail
  generalize ((w.alloc (.cells #[.int .i64 (W : Int), .int .i64 (H : Int), .int .i64 (x : Int), .int .i64 (y : Int), .int .i64 (lk : Int), .int .i64 (tp : Int), .int .i64 (bt : Int), .int .i64 (sx : Int), .int .i64 (sy : Int), .string ti, .slice (some ⟨bC, oC, none⟩) cs.length c, .slice aH 0 d] 27)).alloc (.cells #[.int .i64 0, .int .i64 0, .int .i64 0, .int .i64 0, .int .i64 0, .int .i64 0, .int .i64 0, .int .i64 0, .int .i64 0, .string ⟨#[]⟩, .slice none 0 0, .slice none 0 0] 27)) = W2 at *
  clear hat hc
  generalize hn0 : w.heap.size = n0 at *
  go_region_with (first
    | (go_at_call 30; (refine (cloneCells_any bC oC _ c cs _ rfl h0 hn HS.out.drew.c).mono ?_); rintro e wC ⟨g, cap, rfl, hoC, hbC⟩; have HSC := Lib.hid (HS.out.drew.next hbC); have x0 := HSC.out.x; have f0 := HSC.out.f)
    | (go_at_call 31; (refine (cloneStr0_any aH d _).mono ?_); rintro e wS ⟨aH', d', rfl, hoS, hbS⟩; have HSS := Lib.hid (HSC.out.next hbS); have x0 := HSS.out.x; have f0 := HSS.out.f; have hoC2 := own_next hoC hbS))
  all_goals
    have hz1 : n0 + 2 ≤ wC.heap.size := by have := hbC.size; simp at this; omega
    have y4 := HSS.out.y
    have g4 := HSS.out.g
    have HE : Hid (CE n0 (n0 + 2) 57 9 w cs g cap aH' d' wS) := ⟨HSS.out.below, own_mono hoC2 (by simp; omega), own_mono hoS (by omega)⟩
    have HN : Hid (∀ k o, aH' = some ⟨k, o, none⟩ → k ≠ g) := by
      intro k o e
      subst e
      have h1 := (hoS.lt k rfl).1
      have h2 := (hoC.lt g rfl).2
      omega
    clear HSC HSS HS hoC hoC2 hoS hbC hbS hz hz1
    go_wp2
    refine bodyPost_ret (v := .agg #[.int .i64 (W : Int), .int .i64 (H : Int), .int .i64 (x : Int), .int .i64 (y : Int), .int .i64 (lk : Int), .int .i64 (tp : Int), .int .i64 (bt : Int), .int .i64 (sx : Int), .int .i64 (sy : Int), .string ti, .slice (some ⟨g, 0, none⟩) cs.length cap, .slice aH' 0 d']) (by simp [results, Tryd.results14, x0, y4, go_sem]) rfl ⟨g, cap, aH', d', rfl, HN.out, ?_⟩
    subst hn0
    have q1 : w.heap.size < w.heap.size + 2 := by omega
    have q2 : w.heap.size ≤ w.heap.size + 1 := by omega
    have q3 : w.heap.size + 1 < w.heap.size + 2 := by omega
    exact ((((((((((((((HE.out.set _ 10 _ (Nat.le_refl _) q1).set _ 11 _ (Nat.le_refl _) q1).set _ 0 _ q2 q3).set _ 1 _ q2 q3).set _ 2 _ q2 q3).set _ 3 _ q2 q3).set _ 4 _ q2 q3).set _ 5 _ q2 q3).set _ 6 _ q2 q3).set _ 7 _ q2 q3).set _ 8 _ q2 q3).set _ 9 _ q2 q3).set _ 10 _ q2 q3).set _ 11 _ q2 q3)
end Go.Proofs.YtfpbboldfilhlaaDoor
