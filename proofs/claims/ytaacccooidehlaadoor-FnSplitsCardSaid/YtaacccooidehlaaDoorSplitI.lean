/-
  Contract of the given program's split. Conditions: the tree lies so, it is a layout.
-/
import Derived.Test.YtaacccooidehlaaDoorSplitP
import Derived.Test.YtaacccooidehlaaDoorAreasI
import Derived.Laws.EntriesVeiled
namespace Go.Proofs.YtaacccooidehlaaDoor
open Go.ChangeShapes Go.WideShapes Go.ChangeAt Go.RowKit
set_option linter.unusedVariables false
set_option linter.unusedSimpArgs false
set_option maxRecDepth 100000
def paneIs (p : Int) (a : AreaV) : Bool := a.pane == p
theorem split1_any (a : AreaV) (pb : Nat) (p : Int) (w : World) (hp : w.cell? ⟨pb, 0, none⟩ = some (.int .i64 p)) (hb : pb < w.heap.size) :
    Calls Tryd.prog 39 #[.agg #[.int .i64 a.pane, .int .i64 a.x, .int .i64 a.y, .int .i64 a.w, .int .i64 a.h], .pointer (some ⟨pb, 0, none⟩)] w fun e w' => e = .returned (.bool (paneIs p a)) ∧ Below w.heap.size w w' := by
  have HB : Hid (Below w.heap.size w (w.alloc (.cells #[.int .i64 a.pane, .int .i64 a.x, .int .i64 a.y, .int .i64 a.w, .int .i64 a.h] 32))) := (Below.refl _ _).alloc (Nat.le_refl _) _
  have hq : (w.alloc (.cells #[.int .i64 a.pane, .int .i64 a.x, .int .i64 a.y, .int .i64 a.w, .int .i64 a.h] 32)).cell? ⟨pb, 0, none⟩ = some (.int .i64 p) := (World.cell?_alloc_lt w _ ⟨pb, 0, none⟩ hb).trans hp
  go_enter Tryd.func39, Tryd.ntmps39
  go_wp2
  go_ret
  exact ⟨rfl, HB.out⟩
theorem split2_any (a : AreaV) (pb : Nat) (p : Int) (w : World) (hp : w.cell? ⟨pb, 0, none⟩ = some (.int .i64 p)) (hb : pb < w.heap.size) :
    Calls Tryd.prog 41 #[.agg #[.int .i64 a.pane, .int .i64 a.x, .int .i64 a.y, .int .i64 a.w, .int .i64 a.h], .pointer (some ⟨pb, 0, none⟩)] w fun e w' => e = .returned (.bool (paneIs p a)) ∧ Below w.heap.size w w' := by
  have HB : Hid (Below w.heap.size w (w.alloc (.cells #[.int .i64 a.pane, .int .i64 a.x, .int .i64 a.y, .int .i64 a.w, .int .i64 a.h] 32))) := (Below.refl _ _).alloc (Nat.le_refl _) _
  have hq : (w.alloc (.cells #[.int .i64 a.pane, .int .i64 a.x, .int .i64 a.y, .int .i64 a.w, .int .i64 a.h] 32)).cell? ⟨pb, 0, none⟩ = some (.int .i64 p) := (World.cell?_alloc_lt w _ ⟨pb, 0, none⟩ hb).trans hp
  go_enter Tryd.func41, Tryd.ntmps41
  go_wp2
  go_ret
  exact ⟨rfl, HB.out⟩
/-- slices.IndexFunc over areas, at a closure that looks for a pane -/
theorem indexFunc_any (k : FuncId) (hk : ∀ (a : AreaV) (pb : Nat) (p : Int) (w : World), w.cell? ⟨pb, 0, none⟩ = some (.int .i64 p) → pb < w.heap.size → Calls Tryd.prog k #[.agg #[.int .i64 a.pane, .int .i64 a.x, .int .i64 a.y, .int .i64 a.w, .int .i64 a.h], .pointer (some ⟨pb, 0, none⟩)] w fun e w' => e = .returned (.bool (paneIs p a)) ∧ Below w.heap.size w w')
    (hcf : ∀ (args : Array Value) (w : World), (callFunc k args).run Tryd.prog w = .ok (.enter k args) w)
    (ao : Option Addr) (n cap : Nat) (l : List AreaV) (hl : l.length = n) (hn : n ≤ 1000) (pb : Nat) (p : Int) (w : World) (ha : At w ao (areasV l)) (hp : w.cell? ⟨pb, 0, none⟩ = some (.int .i64 p)) :
    Calls Tryd.prog 38 #[.slice ao n cap, .func (Fn.func k) #[] #[.pointer (some ⟨pb, 0, none⟩)]] w fun e w' => e = .returned (.int .i64 (idxFrom (paneIs p) 0 l)) ∧ Below w.heap.size w w' := by
  have hpb : pb < w.heap.size := World.block_lt_of_cell? w _ hp
  have HK := Lib.hid hk
  have HL := Lib.hid hl
  have HA := Lib.hid ha
  have HP := Lib.hid hp
  obtain ⟨R, hR⟩ : ∃ R, idxFrom (paneIs p) 0 l = R := ⟨_, rfl⟩
  have HR := Lib.hid hR
  rw [hR]
  clear hk hl ha hR hp
  go_enter Tryd.func38, Tryd.ntmps38
  go_wp2
  go_loopw [8] (fun i wr => ∃ j : Nat, j ≤ n ∧ i = .int .i64 j ∧ Hid (∀ m (h : m < l.length), m < j → paneIs p l[m] = false) ∧ Below w.heap.size w wr) (fun i _ => n - (intOf i).toNat)
  case atStart => exact ⟨0, Nat.zero_le _, rfl, fun m h hm => absurd hm (by omega), Below.refl _ _⟩
  case round =>
    obtain ⟨j, hj, rfl, hall, hbel⟩ := hrel
    by_cases hjn : j < n
    · have hjl : j < l.length := by have := HL.out; omega
      obtain ⟨blk, off, rfl, c0, c1, c2, c3, c4⟩ := (HA.out.below hbel (Nat.le_refl _)).area (List.getElem?_eq_getElem hjl)
      have i1 : (0 : Int) ≤ (j : Int) := by omega
      have i2 : (j : Int) < (n : Int) := by omega
      have HC := Lib.hid (HK.out l[j] pb p wr ((hbel.cell (p := ⟨pb, 0, none⟩) hpb).trans HP.out) (Nat.lt_of_lt_of_le hpb hbel.size))
      obtain ⟨bv, hbv⟩ : ∃ b, paneIs p l[j] = b := ⟨_, rfl⟩
      rw [hbv] at HC
      have HBV := Lib.hid hbv
      have HBE := Lib.hid hbel
      clear hbv hbel
      go_wp2_with fail
      refine HC.out.mono ?_
      rintro e w2 ⟨rfl, hb2⟩
      have HB2 : Hid (Below w.heap.size w w2) := HBE.out.trans (hb2.mono HBE.out.size)
      clear c0 c1 c2 c3 c4 hb2 HC
      cases bv
      · have HN : Hid (∀ m (h : m < l.length), m < j + 1 → paneIs p l[m] = false) := fun m h hm => by
          by_cases e : m = j
          · subst e; exact HBV.out
          · exact hall.out m h (by omega)
        clear hall
        go_wp2
        go_roundw
        case rel => exact ⟨j + 1, by omega, by go_num, HN, HB2.out⟩
        case measure => simp [intOf]; omega
      · have HT : Hid (R = (j : Int)) := by
          show _ = _
          rw [← HR.out, idxFrom_at (paneIs p) l 0 j hjl (fun m hm => hall.out m (by omega) hm) HBV.out]
          omega
        clear hall
        go_wp2
        go_ret
        exact ⟨ret_int HT.out.symm, HB2.out⟩
    · have HT : Hid (R = -1) := by
        show _ = _
        rw [← HR.out]
        refine idxFrom_none _ _ 0 fun x hx => ?_
        obtain ⟨m, hm, rfl⟩ := List.mem_iff_getElem.1 hx
        exact hall.out m hm (by have := HL.out; omega)
      clear hall
      go_wp2
      go_ret
      exact ⟨ret_int HT.out.symm, hbel⟩
theorem containsFunc_any (k : FuncId) (hk : ∀ (a : AreaV) (pb : Nat) (p : Int) (w : World), w.cell? ⟨pb, 0, none⟩ = some (.int .i64 p) → pb < w.heap.size → Calls Tryd.prog k #[.agg #[.int .i64 a.pane, .int .i64 a.x, .int .i64 a.y, .int .i64 a.w, .int .i64 a.h], .pointer (some ⟨pb, 0, none⟩)] w fun e w' => e = .returned (.bool (paneIs p a)) ∧ Below w.heap.size w w')
    (hcf : ∀ (args : Array Value) (w : World), (callFunc k args).run Tryd.prog w = .ok (.enter k args) w)
    (ao : Option Addr) (n cap : Nat) (l : List AreaV) (hl : l.length = n) (hn : n ≤ 1000) (pb : Nat) (p : Int) (w : World) (ha : At w ao (areasV l)) (hp : w.cell? ⟨pb, 0, none⟩ = some (.int .i64 p)) :
    Calls Tryd.prog 40 #[.slice ao n cap, .func (Fn.func k) #[] #[.pointer (some ⟨pb, 0, none⟩)]] w fun e w' => e = .returned (.bool (l.any (paneIs p))) ∧ Below w.heap.size w w' := by
  have HI := Lib.hid (indexFunc_any k hk hcf ao n cap l hl hn pb p w ha hp)
  have HE : Hid (decide (0 ≤ idxFrom (paneIs p) 0 l) = l.any (paneIs p)) := idxFrom_any _ _ 0
  obtain ⟨R, hR⟩ : ∃ R, idxFrom (paneIs p) 0 l = R := ⟨_, rfl⟩
  rw [hR] at HI HE
  clear hk hcf hl ha hp hR
  go_enter Tryd.func40, Tryd.ntmps40
  go_wp2_with fail
  refine HI.out.mono ?_
  rintro e w1 ⟨rfl, hb1⟩
  have HB1 := Lib.hid hb1
  clear hb1 HI
  go_wp2
  all_goals
    go_ret
    exact ⟨ret_bool (by rw [← HE.out]), HB1.out⟩
theorem areas_find {p : Int} {t : Tr} {W H : Int} (hp : p ∈ t.panes) : ∃ j, ∃ h : j < (t.areas 0 0 W H).length, idxFrom (paneIs p) 0 (t.areas 0 0 W H) = ((j : Nat) : Int) ∧ ((t.areas 0 0 W H)[j]).pane = p := by
  have hx : ∃ a ∈ t.areas 0 0 W H, a.pane = p := by
    rw [← t.areas_panes 0 0 W H] at hp
    obtain ⟨a, ha, h⟩ := List.mem_map.1 hp
    exact ⟨a, ha, h⟩
  generalize t.areas 0 0 W H = l at *
  have key : ∀ (l : List AreaV) (k : Nat), (∃ a ∈ l, a.pane = p) → ∃ j, ∃ h : j < l.length, idxFrom (paneIs p) k l = ((k + j : Nat) : Int) ∧ (l[j]).pane = p := by
    intro l
    induction l with
    | nil => intro k h; obtain ⟨a, ha, _⟩ := h; cases ha
    | cons a l ih =>
      intro k h
      by_cases e : a.pane = p
      · exact ⟨0, by simp, by rw [idxFrom, if_pos (by simp [paneIs, e])]; simp, by simpa using e⟩
      · obtain ⟨j, hj, h1, h2⟩ := ih (k + 1) (by
          obtain ⟨b, hb, hb2⟩ := h
          rcases List.mem_cons.1 hb with rfl | hb
          · exact absurd hb2 e
          · exact ⟨b, hb, hb2⟩)
        exact ⟨j + 1, by simpa using hj, by rw [idxFrom, if_neg (by simp [paneIs, e]), h1]; congr 1; omega, by simpa using h2⟩
  obtain ⟨j, hj, h1, h2⟩ := key l 0 hx
  exact ⟨j, hj, by rw [h1, Nat.zero_add], h2⟩
theorem areas_any_pane (p : Int) (t : Tr) (W H : Int) : (t.areas 0 0 W H).any (paneIs p) = decide (p ∈ t.panes) := by
  rw [← t.areas_panes 0 0 W H, Bool.eq_iff_iff, List.any_eq_true, decide_eq_true_eq, List.mem_map]
  constructor
  · rintro ⟨a, ha, h⟩; exact ⟨a, ha, by simpa [paneIs] using h⟩
  · rintro ⟨a, ha, h⟩; exact ⟨a, ha, by simpa [paneIs] using h⟩
theorem areas_no_pane {p : Int} {t : Tr} {W H : Int} (hp : p ∉ t.panes) : idxFrom (paneIs p) 0 (t.areas 0 0 W H) = -1 := by
  refine idxFrom_none _ _ 0 fun a ha => ?_
  cases e : paneIs p a with
  | false => rfl
  | true => exact absurd (by rw [← t.areas_panes 0 0 W H]; exact List.mem_map.2 ⟨a, ha, by simpa [paneIs] using e⟩) hp
theorem whole_le {p : Int} {rw_ : Bool} : ∀ {t : Tr} {w h : Int}, t.fits w h → t.whole p rw_ w h ≤ (if rw_ then h else w)
  | .leaf q, w, h, f => by simp only [Tr.whole]; cases rw_ <;> simp
  | .node rows size l r, w, h, f => by
    have ts := Tr.fits_size f
    simp only [Tr.whole]
    split
    · have := whole_le (p := p) (rw_ := rw_) f.1
      cases rw_ <;> cases rows <;> simp [lwOf, lhOf] at this ts ⊢ <;> omega
    · have := whole_le (p := p) (rw_ := rw_) f.2
      cases rw_ <;> cases rows <;> simp [rwOf, rhOf] at this ts ⊢ <;> omega
theorem isPaneId_inB (p : Int) (w : World) : Calls Tryd.prog 18 #[.int .i64 p] w fun e w' => e = .returned (.bool (inB p 1 1000)) ∧ w = w' := isPaneId_any p w
theorem split_end {w w4 : World} {s : Sh} {t : Tr} {W H p fr : Int} {rw_ : Bool} {f : Nat} {u : Option Nat} (n : Nat) (q : Int) (hB : Below w.heap.size w w4) (h0 : TreI w s t) (h : TreI w4 s t) (hn : s.bs.Nodup) (hpn : t.panes.Nodup) (e : s.find t p = some (f, u)) (hq : t.whole p rw_ W H / 2 = q) :
    OpPost (t.split p fr rw_ W H) 0 s w (.returned (.int .i64 0)) ((((((((w4.drewN n).alloc (.cells #[.int .i64 p, .bool false, .int .i64 0, .pointer none, .pointer none] 77)).alloc (.cells #[.int .i64 fr, .bool false, .int .i64 0, .pointer none, .pointer none] 77)).setCell ⟨f, 0, none⟩ (.int .i64 0)).setCell ⟨f, 1, none⟩ (.bool rw_)).setCell ⟨f, 2, none⟩ (.int .i64 q)).setCell ⟨f, 3, none⟩ (.pointer (some ⟨w4.heap.size, 0, none⟩))).setCell ⟨f, 4, none⟩ (.pointer (some ⟨w4.heap.size + 1, 0, none⟩))) := by
  obtain ⟨hfh, hfm⟩ := find_heap h e
  have hfl := box_lt hfh
  obtain ⟨W2, hW2⟩ : ∃ W, (((w4.drewN n).alloc (.cells #[.int .i64 p, .bool false, .int .i64 0, .pointer none, .pointer none] 77)).alloc (.cells #[.int .i64 fr, .bool false, .int .i64 0, .pointer none, .pointer none] 77)) = W := ⟨_, rfl⟩
  have hz : W2.heap.size = w4.heap.size + 2 := by rw [← hW2]; simp
  have hf2 : W2.heap[f]? = some (.cells #[.int .i64 p, .bool false, .int .i64 0, .pointer none, .pointer none] 77 (0, 0)) := by
    rw [← hW2, Below.heap_alloc _ _ _ (by simp; omega), Below.heap_alloc _ _ _ (by simpa using hfl)]
    exact hfh
  have hk2 : ∀ k, k < w4.heap.size → W2.heap[k]? = w4.heap[k]? := fun k hk => by
    rw [← hW2, Below.heap_alloc _ _ _ (by simp; omega), Below.heap_alloc _ _ _ (by simpa using hk)]; rfl
  have hn1 : W2.heap[w4.heap.size]? = some (.cells (areaLf p) 77 (0, 0)) := by
    rw [← hW2, Below.heap_alloc _ _ _ (by simp)]
    exact heap_alloc_new (w4.drewN n) _
  have hn2 : W2.heap[w4.heap.size + 1]? = some (.cells (areaLf fr) 77 (0, 0)) := by
    have := heap_alloc_new ((w4.drewN n).alloc (.cells #[.int .i64 p, .bool false, .int .i64 0, .pointer none, .pointer none] 77)) (.cells #[.int .i64 fr, .bool false, .int .i64 0, .pointer none, .pointer none] 77)
    rw [World.size_alloc, hW2] at this; exact this
  rw [hW2]
  have ho := only_five W2 f (.int .i64 0) (.bool rw_) (.int .i64 q) (.pointer (some ⟨w4.heap.size, 0, none⟩)) (.pointer (some ⟨w4.heap.size + 1, 0, none⟩))
  have hx := set_five (o0 := .int .i64 0) (o1 := .bool rw_) (o2 := .int .i64 q) (o3 := .pointer (some ⟨w4.heap.size, 0, none⟩)) (o4 := .pointer (some ⟨w4.heap.size + 1, 0, none⟩)) hf2
  generalize (((((W2.setCell ⟨f, 0, none⟩ (.int .i64 0)).setCell ⟨f, 1, none⟩ (.bool rw_)).setCell ⟨f, 2, none⟩ (.int .i64 q)).setCell ⟨f, 3, none⟩ (.pointer (some ⟨w4.heap.size, 0, none⟩))).setCell ⟨f, 4, none⟩ (.pointer (some ⟨w4.heap.size + 1, 0, none⟩))) = X at *
  have hs : ∀ k ∈ s.bs, k < w4.heap.size := TreG.lt h
  obtain ⟨s', t1, t2⟩ := split_at (fresh := fr) (W := W) (H := H) (n1 := w4.heap.size) (n2 := w4.heap.size + 1) h hn hpn e (by rw [hq]; exact hx) ((ho.block _ (by omega) (by simp; omega)).trans hn1) ((ho.block _ (by omega) (by simp; omega)).trans hn2) (fun k hk hne => (ho.block k (by have := hs k hk; omega) (by simpa using hne)).trans (hk2 k (hs k hk)))
  refine ⟨rfl, ⟨s', t1, t2⟩, ?_⟩
  have h1 : Only s.bs w w4 := Only.of_below hB
  have h2 : Only s.bs w4 W2 := by
    refine ⟨by rw [← hW2]; rfl, by rw [← hW2]; rfl, by rw [← hW2]; rfl, by omega, fun k hk _ => hk2 k hk⟩
  exact (h1.trans h2).trans (ho.mono (fun x hx => by simp at hx; subst hx; exact hfm))
set_option maxHeartbeats 8000000 in
theorem split_any {ps : List PartV} {W H : Int} {t : Tr} (y : Lay ps W H t) (s : Sh) (w : World) (h : TreI w s t) (hn : s.bs.Nodup) (p fr : Int) (rw_ : Bool) (t' : Tr) (cd : Int) (hK : SplitO W H p fr rw_ t t' cd) :
    Calls Tryd.prog 19 #[.pointer (some ⟨s.root, 0, none⟩), .int .i64 W, .int .i64 H, .int .i64 p, .int .i64 fr, .bool rw_] w (OpPost t' cd s w) := by
  have hcf : ∀ (k : FuncId) (args : Array Value) (w : World), (k = 39 ∨ k = 41) → (callFunc k args).run Tryd.prog w = .ok (.enter k args) w := by
    intro k args w h
    rcases h with rfl | rfl <;> kernel_rfl
  obtain ⟨V, hV⟩ : ∃ V, ((w.alloc (.cells #[.int .i64 p] 3)).alloc (.cells #[.int .i64 fr] 3)) = V := ⟨_, rfl⟩
  have hB : Below w.heap.size w V := by rw [← hV]; exact ((Below.refl _ _).alloc (Nat.le_refl _) _).alloc (by simp) _
  have hz : V.heap.size = w.heap.size + 2 := by rw [← hV]; simp
  have m0 : V.heap[w.heap.size]? = some (.cells #[.int .i64 p] 3 (0, 0)) := by rw [← hV, Below.heap_alloc _ _ _ (by simp)]; exact heap_alloc_new w _
  have m1 : V.heap[w.heap.size + 1]? = some (.cells #[.int .i64 fr] 3 (0, 0)) := by
    rw [← hV]
    have := heap_alloc_new (w.alloc (.cells #[.int .i64 p] 3)) (.cells #[.int .i64 fr] 3)
    rw [World.size_alloc] at this; exact this
  have h1 := y.w2
  have h2 := y.h2
  have h3 := y.w1
  have h4 := y.h1
  have h5 := y.lv
  have h6 := t.len_eq
  have hT : TreI V s t := TreG.below h hB (Nat.le_refl _)
  have HAR := Lib.hid (areas_any t s V V.heap.size (.slice none 0 0) 0 [] 0 0 W H 24 hT y.okP (own_none _ _ _ _) (by omega) (by simp) (by omega) (by omega) (by omega) (by omega) (by omega) (by omega) (by omega) (by omega) (by omega))
  have HB := Lib.hid hB
  have HM0 := Lib.hid m0
  have HM1 := Lib.hid m1
  have HZ := Lib.hid hz
  have HY := Lib.hid y
  have HT := Lib.hid hT
  have HT0 := Lib.hid h
  have HN := Lib.hid hn
  have HK := Lib.hid hK
  clear hB m0 m1 hz y hT h hn hK
  subst hV
  go_enter Tryd.func19, Tryd.ntmps19
  go_wp2_with fail
  refine HAR.out.mono ?_
  generalize ((w.alloc (.cells #[.int .i64 p] 3)).alloc (.cells #[.int .i64 fr] 3)) = V at *
  rintro e w2 ⟨v2, rfl, hown2, hg2, hr2⟩
  obtain ⟨aA, capA, rfl, hmA⟩ := mine_of_owns hown2
  rw [List.nil_append] at hmA
  have hzV := HZ.out
  have hb2 : Below V.heap.size V w2 := (Below.refl _ _).grown hg2 (Nat.le_refl _) (fun k hk => by simp [Value.ownBlock] at hk)
  have hz2 : V.heap.size ≤ w2.heap.size := hb2.size
  have X0 := Lib.hid (box_below HM0.out hb2 (by omega))
  have X1 := Lib.hid (box_below HM1.out hb2 (by omega))
  have B1 : Hid (Below w.heap.size w w2) := HB.out.trans (hb2.mono (by omega))
  have HAA := Lib.hid hmA.at
  obtain ⟨nL, hnL⟩ : ∃ n, t.leaves = n := ⟨_, rfl⟩
  rw [Nat.zero_add, hnL]
  have HNL := Lib.hid hnL
  have hn6 : nL ≤ 6 := by omega
  have HAL : Hid ((t.areas 0 0 W H).length = nL) := by show _ = _; rw [Tr.length_areas]; exact hnL
  have hc0 : w2.cell? ⟨w.heap.size, 0, none⟩ = some (.int .i64 p) := box_cells X0.out 0
  have HI := Lib.hid (indexFunc_any 39 split1_any (fun a w => hcf _ a w (.inl rfl)) aA nL capA _ HAL.out (by omega) w.heap.size p w2 HAA.out hc0)
  clear hown2 hg2 hr2 hmA hb2 HM0 HM1 HAR hnL hc0 h5 h6 HB
  have HOE : Hid (∀ w', Below w.heap.size w w' → OpPost t 5 s w (.returned (.int .i64 5)) w' ∧ OpPost t 9 s w (.returned (.int .i64 9)) w' ∧ OpPost t 7 s w (.returned (.int .i64 7)) w' ∧ OpPost t 10 s w (.returned (.int .i64 10)) w') := fun w' hb => by
    have ho : Only s.bs w w' := Only.of_below hb
    have ht : ∃ s', TreI w' s' t ∧ s'.root = s.root := ⟨s, TreG.below HT0.out hb (Nat.le_refl _), rfl⟩
    exact ⟨⟨rfl, ht, ho⟩, ⟨rfl, ht, ho⟩, ⟨rfl, ht, ho⟩, ⟨rfl, ht, ho⟩⟩
  rcases HK.out with ⟨hp, rfl, rfl⟩ | hK2
  · rw [areas_no_pane hp] at HI
    clear hp HK
    go_wp2_with fail
    refine HI.out.mono ?_
    rintro e w3 ⟨rfl, hb3⟩
    have B3 : Hid (Below w.heap.size w w3) := B1.out.trans (hb3.mono (by omega))
    clear hb3 HI
    go_wp2
    go_ret
    exact (HOE.out _ B3.out).1
  have hp : p ∈ t.panes := by rcases hK2 with h | h | h | h <;> exact h.1
  obtain ⟨j, hj, hidx, hpane⟩ := areas_find (W := W) (H := H) hp
  rw [hidx] at HI
  have hjn : j < nL := by have := HAL.out; omega
  have HP := Lib.hid hp
  clear hidx hp
  have j1 : (0 : Int) ≤ (j : Int) := by omega
  have j2 : (j : Int) < (nL : Int) := by omega
  go_wp2_with fail
  refine HI.out.mono ?_
  rintro e w3 ⟨rfl, hb3⟩
  have hz3 : w2.heap.size ≤ w3.heap.size := hb3.size
  replace X0 := Lib.hid (box_below X0.out hb3 (by omega))
  replace X1 := Lib.hid (box_below X1.out hb3 (by omega))
  have B3 : Hid (Below w.heap.size w w3) := B1.out.trans (hb3.mono (by omega))
  have HA3 := Lib.hid (HAA.out.below hb3 (Nat.le_refl _))
  have hc1 : w3.cell? ⟨w.heap.size + 1, 0, none⟩ = some (.int .i64 fr) := box_cells X1.out 0
  have HCF := Lib.hid (containsFunc_any 41 split2_any (fun a w => hcf _ a w (.inr rfl)) aA nL capA _ HAL.out (by omega) (w.heap.size + 1) fr w3 HA3.out hc1)
  rw [areas_any_pane] at HCF
  clear hb3 HI hc1 B1 HAA
  rcases hK2 with ⟨_, hf, rfl, rfl⟩ | hK3
  · rw [decide_eq_true hf] at HCF
    clear hf HK
    go_wp2_with fail
    refine HCF.out.mono ?_
    rintro e w4 ⟨rfl, hb4⟩
    have B4 : Hid (Below w.heap.size w w4) := B3.out.trans (hb4.mono (by omega))
    clear hb4 HCF
    go_wp2
    go_ret
    exact (HOE.out _ B4.out).2.1
  have hf : fr ∉ t.panes := by rcases hK3 with h | h | h <;> exact h.2.1
  rw [decide_eq_false hf] at HCF
  have HF := Lib.hid hf
  clear hf
  go_wp2_with fail
  refine HCF.out.mono ?_
  rintro e w4 ⟨rfl, hb4⟩
  have hz4 : w3.heap.size ≤ w4.heap.size := hb4.size
  replace X0 := Lib.hid (box_below X0.out hb4 (by omega))
  replace X1 := Lib.hid (box_below X1.out hb4 (by omega))
  have B4 : Hid (Below w.heap.size w w4) := B3.out.trans (hb4.mono (by omega))
  have HA4 := Lib.hid (HA3.out.below hb4 (Nat.le_refl _))
  clear hb4 HCF B3 HA3
  rcases hK3 with ⟨_, _, h6, rfl, rfl⟩ | hK4
  · obtain rfl : nL = 6 := by rw [← HNL.out]; exact h6
    clear h6 HK
    go_wp2
    go_ret
    exact (HOE.out _ B4.out).2.2.1
  have h6 : ((nL : Int) == 6) = false := by
    have : t.leaves ≠ 6 := by rcases hK4 with h | h <;> exact h.2.2.1
    rw [beq_eq_false_iff_ne]; have := HNL.out; omega
  obtain ⟨blk, off, rfl, c0, c1, c2, c3, c4⟩ := HA4.out.area (List.getElem?_eq_getElem hj)
  have ham : (t.areas 0 0 W H)[j] ∈ t.areas 0 0 W H := List.getElem_mem hj
  have hwh := whole_area (rw_ := rw_) HY.out.nd ham hpane
  obtain ⟨g1, g2, _⟩ := (Tr.fits_areas t 0 0 W H).1 HY.out.ft _ ham
  obtain ⟨wa, hwa⟩ : ∃ x, ((t.areas 0 0 W H)[j]).w = x := ⟨_, rfl⟩
  obtain ⟨ha, hha⟩ : ∃ x, ((t.areas 0 0 W H)[j]).h = x := ⟨_, rfl⟩
  obtain ⟨wl, hwl⟩ : ∃ x, t.whole p rw_ W H = x := ⟨_, rfl⟩
  rw [hwa] at hwh c3 g1
  rw [hha] at hwh c4 g2
  rw [hwl] at hwh hK4
  have HWL := Lib.hid hwl
  have hwl24 : wl ≤ 24 := by have := whole_le (p := p) (rw_ := rw_) HY.out.ft; rw [HWL.out] at this; cases rw_ <;> simp at this <;> omega
  have hwl0 : 0 ≤ wl := by rw [← hwh]; cases rw_ <;> simp <;> omega
  have hq : wl.tdiv 2 = wl / 2 := Int.tdiv_eq_ediv_of_nonneg hwl0
  clear c0 c1 c2 hwl ham hpane hwa hha g1 g2
  rcases hK4 with ⟨_, _, _, hlt, rfl, rfl⟩ | ⟨_, _, _, hge, rfl, rfl⟩
  · cases hr : rw_
    all_goals
      rw [hr] at hwh
      simp only [Bool.false_eq_true, if_false, if_true] at hwh
      subst hwh
      clear hr
      go_wp2
      all_goals try (exfalso; omega)
      all_goals
        go_ret
        exact (HOE.out _ B4.out).2.2.2
  · have HT4 : Hid (TreI w4 s t) := TreG.below HT0.out B4.out (Nat.le_refl _)
    have HFD := Lib.hid (find_any t s p w4 HT4.out HY.out.okP)
    obtain ⟨f, u, hfu⟩ : ∃ f u, s.find t p = some (f, u) := by
      cases e : s.find t p with
      | none => exact absurd HP.out ((find_none HT4.out).1 e)
      | some x => exact ⟨x.1, x.2, rfl⟩
    rw [hfu] at HFD
    obtain ⟨hfh, hfm⟩ := find_heap HT4.out hfu
    have hfw : f < w.heap.size := TreG.lt HT0.out f hfm
    have HFU := Lib.hid hfu
    have HFH := Lib.hid hfh
    have HFM := Lib.hid hfm
    have z0 := box_cells X0.out 0
    have z1 := box_cells X1.out 0
    simp only [List.getElem?_toArray, List.getElem?_cons_zero] at z0 z1
    have y := box_cells hfh
    have fz := box_free hfh
    unfold areaLf at y
    clear HK hfu hfh hfm
    cases hr : rw_
    · rw [hr] at hwh
      simp only [Bool.false_eq_true, if_false, if_true] at hwh
      subst hwh
      have hd1 : decide (wa / 2 < 2) = false := decide_eq_false (by omega)
      have hd2 : decide (wa.tdiv 2 < 2) = false := decide_eq_false (by omega)
      go_wp2_with fail
      all_goals try (exfalso; omega)
      all_goals
        refine HFD.out.mono ?_
        rintro e w5 ⟨rfl, n1, rfl⟩
        have z1a : ((w4.drewN n1).alloc (.cells #[.int .i64 p, .bool false, .int .i64 0, .pointer none, .pointer none] 77)).cell? ⟨w.heap.size + 1, 0, none⟩ = some (.int .i64 fr) := (World.cell?_alloc_lt (w4.drewN n1) _ ⟨w.heap.size + 1, 0, none⟩ (box_lt X1.out)).trans z1
        have HW2 : Hid ((((w4.drewN n1).alloc (.cells #[.int .i64 p, .bool false, .int .i64 0, .pointer none, .pointer none] 77)).alloc (.cells #[.int .i64 fr, .bool false, .int .i64 0, .pointer none, .pointer none] 77)).heap[f]? = some (.cells (areaLf p) 77 (0, 0))) := by
          show _ = _
          rw [Below.heap_alloc _ _ _ (by simp; have := box_lt HFH.out; omega), Below.heap_alloc _ _ _ (by simpa using box_lt HFH.out)]
          exact HFH.out
        have y2 := box_cells HW2.out
        have f2 := box_free HW2.out
        unfold areaLf at y2
        clear y fz
        unfold findV
        have HEND := Lib.hid (split_end (fr := fr) (rw_ := rw_) n1 (wa / 2) B4.out HT0.out HT4.out HN.out HY.out.nd HFU.out (by rw [HWL.out]))
        rw [hr] at HEND
        go_wp2
        go_ret
        first
          | exact HEND.out
          | (rw [hr]; exact HEND.out)
    · rw [hr] at hwh
      simp only [Bool.false_eq_true, if_false, if_true] at hwh
      subst hwh
      have hd1 : decide (ha / 2 < 2) = false := decide_eq_false (by omega)
      have hd2 : decide (ha.tdiv 2 < 2) = false := decide_eq_false (by omega)
      go_wp2_with fail
      all_goals try (exfalso; omega)
      all_goals
        refine HFD.out.mono ?_
        rintro e w5 ⟨rfl, n1, rfl⟩
        have z1a : ((w4.drewN n1).alloc (.cells #[.int .i64 p, .bool false, .int .i64 0, .pointer none, .pointer none] 77)).cell? ⟨w.heap.size + 1, 0, none⟩ = some (.int .i64 fr) := (World.cell?_alloc_lt (w4.drewN n1) _ ⟨w.heap.size + 1, 0, none⟩ (box_lt X1.out)).trans z1
        have HW2 : Hid ((((w4.drewN n1).alloc (.cells #[.int .i64 p, .bool false, .int .i64 0, .pointer none, .pointer none] 77)).alloc (.cells #[.int .i64 fr, .bool false, .int .i64 0, .pointer none, .pointer none] 77)).heap[f]? = some (.cells (areaLf p) 77 (0, 0))) := by
          show _ = _
          rw [Below.heap_alloc _ _ _ (by simp; have := box_lt HFH.out; omega), Below.heap_alloc _ _ _ (by simpa using box_lt HFH.out)]
          exact HFH.out
        have y2 := box_cells HW2.out
        have f2 := box_free HW2.out
        unfold areaLf at y2
        clear y fz
        unfold findV
        have HEND := Lib.hid (split_end (fr := fr) (rw_ := rw_) n1 (ha / 2) B4.out HT0.out HT4.out HN.out HY.out.nd HFU.out (by rw [HWL.out]))
        rw [hr] at HEND
        go_wp2
        go_ret
        first
          | exact HEND.out
          | (rw [hr]; exact HEND.out)
end Go.Proofs.YtaacccooidehlaaDoor
