/-
  Contract of the given program's treeOf: whether a list of parts is a layout, and its tree. Conditions: the parts lie as the cells say.
-/
import Derived.Test.YtaacccooidehlaaDoorLayPart
import Derived.Maps.OwnOps
import Derived.Maps.Views
namespace Go.Proofs.YtaacccooidehlaaDoor
open Go.ChangeShapes Go.WideShapes Go.ChangeAt Go.RowKit
set_option linter.unusedVariables false
set_option linter.unusedSimpArgs false
set_option maxRecDepth 100000

theorem isPaneId_any (p : Int) (w : World) :
    Calls Tryd.prog 18 #[.int .i64 p] w fun e w' => e = .returned (.bool (decide (1 ≤ p) && decide (p ≤ 1000))) ∧ w = w' := by
  go_enter Tryd.func18, Tryd.ntmps18
  go_wp2_with (go_at_call 36; refine (within_any _ _ _ _).mono ?_; rintro e w' ⟨rfl, rfl⟩)
  all_goals
    go_ret
    exact ⟨rfl, rfl⟩
def sizeB (w h : Int) : Bool := decide (2 ≤ w ∧ w ≤ 24 ∧ 2 ≤ h ∧ h ≤ 10)
theorem isSize_any (a b : Int) (w : World) :
    Calls Tryd.prog 35 #[.int .i64 a, .int .i64 b] w fun e w' => e = .returned (.bool (sizeB a b)) ∧ w = w' := by
  go_enter Tryd.func35, Tryd.ntmps35
  go_wp2_with (go_at_call 36; refine (within_any _ _ _ _).mono ?_; rintro e w' ⟨rfl, rfl⟩)
  all_goals
    go_ret
    exact ⟨ret_bool (by unfold sizeB; rw [Bool.eq_iff_iff]; first | (simp_all; done) | (simp_all; omega)), rfl⟩
/-- the panes seen, as the program keeps them -/
def seenD (l : List Int) : DataW Unit := l.foldl (fun D p => D.put (.int .i64 p) (.lit (.bool true))) (.map [])
theorem seenD_snoc (l : List Int) (p : Int) : seenD (l ++ [p]) = (seenD l).put (.int .i64 p) (.lit (.bool true)) := by simp [seenD]
theorem seenD_isMap (l : List Int) : Go.Maps.IsMap (seenD l) := by
  unfold seenD
  have : ∀ (l : List Int) (D : DataW Unit), Go.Maps.IsMap D → Go.Maps.IsMap (l.foldl (fun D p => D.put (.int .i64 p) (.lit (.bool true))) D) := by
    intro l
    induction l with
    | nil => exact fun D h => h
    | cons a l ih => exact fun D h => ih _ (h.put _ _)
  exact this l _ Go.Maps.isMap_empty
theorem seenD_at (x : Int) : ∀ (n : Nat) (l : List Int), l.length = n → (seenD l).atKey (.int .i64 x) (.lit (.bool false)) = .lit (.bool (decide (x ∈ l)))
  | 0, l, h => by rw [List.length_eq_zero_iff.1 h]; rfl
  | n + 1, l, h => by
    obtain ⟨l', p, rfl⟩ : ∃ l' p, l = l' ++ [p] := ⟨l.dropLast, l.getLast (by intro e; subst e; simp at h), (List.dropLast_concat_getLast _).symm⟩
    rw [seenD_snoc]
    by_cases e : x = p
    · subst e
      rw [Go.Maps.atKey_put_same (seenD_isMap l') (by simp [WideAt.IsKeyLit])]
      simp
    · rw [Go.Maps.atKey_put_other (by simp; exact e), seenD_at x n l' (by simpa using h)]
      simp [e]
/-- the five cells of an area -/
theorem At.area {w : World} {ao : Option Addr} {l : List AreaV} (h : At w ao (areasV l)) {k : Nat} {p : AreaV} (hk : l[k]? = some p) :
    ∃ b off, ao = some ⟨b, off, none⟩ ∧ w.cell? ⟨b, off + k * 5, none⟩ = some (.int .i64 p.pane) ∧ w.cell? ⟨b, off + k * 5 + 1, none⟩ = some (.int .i64 p.x) ∧ w.cell? ⟨b, off + k * 5 + 2, none⟩ = some (.int .i64 p.y) ∧ w.cell? ⟨b, off + k * 5 + 3, none⟩ = some (.int .i64 p.w) ∧ w.cell? ⟨b, off + k * 5 + 4, none⟩ = some (.int .i64 p.h) := by
  have len : ∀ l : List AreaV, (areasV l).length = l.length * 5 := by
    intro l
    induction l with
    | nil => rfl
    | cons a l ih => simp only [areasV, List.flatMap_cons, List.length_append] at ih ⊢; rw [ih]; simp only [areaC, List.length_cons, List.length_nil]; omega
  have get : ∀ (l : List AreaV) (k : Nat) (p : AreaV), l[k]? = some p → ∀ j, j < 5 → (areasV l)[k * 5 + j]? = (areaC p)[j]? := by
    intro l
    induction l with
    | nil => intro k p h; simp at h
    | cons a l ih =>
      intro k p h j hj
      cases k with
      | zero =>
        simp only [List.getElem?_cons_zero, Option.some.injEq] at h
        subst h
        show (areaC a ++ areasV l)[0 * 5 + j]? = _
        rw [show 0 * 5 + j = j from by omega, List.getElem?_append_left (by exact hj)]
      | succ k =>
        have := ih k p (by simpa using h) j hj
        show (areaC a ++ areasV l)[(k + 1) * 5 + j]? = _
        rw [List.getElem?_append_right (by show 5 ≤ _; omega), ← this]
        congr 1
        show (k + 1) * 5 + j - 5 = _
        omega
  have hkl : k < l.length := (List.getElem?_eq_some_iff.1 hk).1
  have hne : areasV l ≠ [] := by intro e; have := congrArg List.length e; rw [len] at this; simp at this; omega
  obtain ⟨b, off, rfl, hc⟩ := h.get hne
  have g : ∀ j, j < 5 → w.cell? ⟨b, off + (k * 5 + j), none⟩ = (areaC p)[j]? := fun j hj => by
    have hlt : k * 5 + j < (areasV l).length := by rw [len]; omega
    rw [hc _ hlt, ← List.getElem?_eq_getElem hlt, get l k p hk j hj]
  exact ⟨b, off, rfl, g 0 (by decide), g 1 (by decide), g 2 (by decide), g 3 (by decide), g 4 (by decide)⟩

theorem look_bool {H : Type} {P : Program} {w : World} {t k e : TypeId} {b n : Nat} {D : DataW H} (h : w.ownsMap P k (plainElem P e) b n D) (K : Go.Maps.Keyed P k) (ht : P.underlying t = some (.map k e)) (he : P.underlying e = some .bool) (hz : (zeroValue e).run P w = .ok (.bool false) w)
    {key : Value} {kl : Lit} (hkey : keyOf P k key = some kl) : ∃ c, (Instr.lookup t (.map (some b)) key false).run P w = .ok (.bool c) w ∧ D.atKey kl (.lit (.bool false)) = .lit (.bool c) := by
  obtain ⟨v, ps, hrun, hv⟩ := h.lookup K ht hz (plainElem_bool he false) hkey
  unfold plainElem at hv
  rw [he] at hv
  cases v <;> simp at hv
  exact ⟨_, hrun, hv.1.symm⟩
theorem own_none (w : World) (B e size : Nat) : w.ownsRow B e size (.slice none 0 0) 0 [] := ⟨by simp, .inl ⟨rfl, rfl⟩⟩
/-- an area that is right, its pane not among those before -/
def okA (l : List Int) (a : AreaV) : Prop := (1 ≤ a.pane ∧ a.pane ≤ 1000) ∧ a.pane ∉ l ∧ 2 ≤ a.w ∧ 2 ≤ a.h
def okAs (l : List AreaV) (k : Nat) : Prop := ∀ j a, j < k → l[j]? = some a → okA ((l.take j).map (·.pane)) a
theorem okAs_all {l : List AreaV} (h : okAs l l.length) : (∀ a ∈ l, 2 ≤ a.w ∧ 2 ≤ a.h ∧ 1 ≤ a.pane ∧ a.pane ≤ 1000) ∧ (l.map (·.pane)).Nodup := by
  constructor
  · intro a ha
    obtain ⟨j, hj, rfl⟩ := List.getElem_of_mem ha
    obtain ⟨h1, _, h3, h4⟩ := h j _ hj (List.getElem?_eq_getElem hj)
    exact ⟨h3, h4, h1.1, h1.2⟩
  · refine List.pairwise_iff_getElem.2 fun i j hi hj hij => ?_
    rw [List.length_map] at hi hj
    obtain ⟨_, h2, _⟩ := h j _ hj (List.getElem?_eq_getElem hj)
    rw [List.getElem_map, List.getElem_map]
    intro e
    refine h2 ?_
    rw [← e, List.mem_map]
    exact ⟨l[i], List.mem_take_iff_getElem.2 ⟨i, by omega, rfl⟩, rfl⟩
theorem okAs_not {l : List AreaV} {k : Nat} {a : AreaV} (hk : l[k]? = some a) (h : ¬ okA ((l.take k).map (·.pane)) a) : ¬ ((∀ a ∈ l, 2 ≤ a.w ∧ 2 ≤ a.h ∧ 1 ≤ a.pane ∧ a.pane ≤ 1000) ∧ (l.map (·.pane)).Nodup) := by
  rintro ⟨h1, h2⟩
  have hkl : k < l.length := (List.getElem?_eq_some_iff.1 hk).1
  have he : l[k] = a := (List.getElem?_eq_some_iff.1 hk).2
  obtain ⟨a1, a2, a3, a4⟩ := h1 a (List.mem_of_getElem? hk)
  refine h ⟨⟨a3, a4⟩, fun hm => ?_, a1, a2⟩
  obtain ⟨x, hx, hxe⟩ := List.mem_map.1 hm
  obtain ⟨i, hi, rfl⟩ := List.mem_take_iff_getElem.1 hx
  have := List.pairwise_iff_getElem.1 h2 i k (by rw [List.length_map]; omega) (by rw [List.length_map]; exact hkl) (by omega)
  rw [List.getElem_map, List.getElem_map, he] at this
  exact this hxe

def TreePost (ps : List PartV) (W H : Int) (w : World) (e : Ending) (w' : World) : Prop :=
  Below w.heap.size w w' ∧ (((∀ t, ¬ Lay ps W H t) ∧ e = .returned (.tuple #[.pointer none, .bool false])) ∨
    ∃ t s, Lay ps W H t ∧ e = .returned (.tuple #[.pointer (some ⟨s.root, 0, none⟩), .bool true]) ∧ TreI w' s t ∧ s.bs.Nodup ∧ ∀ b ∈ s.bs, w.heap.size ≤ b)

set_option maxHeartbeats 8000000 in
theorem treeOf_any (ao : Option Addr) (len cap : Nat) (ps : List PartV) (W H : Int) (w : World) (ha : At w ao (partsV ps)) (hl : ps.length = len) (hlc : len ≤ cap) (hn : len ≤ 2000000) :
    Calls Tryd.prog 17 #[.agg #[.slice ao len cap], .int .i64 W, .int .i64 H] w (TreePost ps W H w) := by
  have HB : Below w.heap.size w (w.alloc (.cells #[.slice ao len cap] 26)) := (Below.refl _ _).alloc (Nat.le_refl _) _
  have HLL := Lib.hid hl
  have HA : Hid (At (w.alloc (.cells #[.slice ao len cap] 26)) ao (partsV ps)) := ha.below HB (Nat.le_refl _)
  have HX0 := Lib.hid (heap_alloc_new w (.cells #[.slice ao len cap] 26))
  have x0 := box_cells HX0.out 0
  simp only [List.getElem?_toArray, List.getElem?_cons_zero] at x0
  clear ha hl
  by_cases h1 : sizeB W H = true
  · by_cases h2 : 1 ≤ len ∧ len ≤ 11
    · have hw : (decide ((1 : Int) ≤ (len : Int)) && decide ((len : Int) ≤ 11)) = true := by simp; omega
      have HC : Hid (Calls Tryd.prog 37 #[.agg #[.slice ao len cap], .int .i64 0] (w.alloc (.cells #[.slice ao len cap] 26)) (PartPost (parsI ps (len + 1) 0) (w.alloc (.cells #[.slice ao len cap] 26)))) := partAt_any ao len cap ps HLL.out (by omega) hlc (len + 1) 0 (w.alloc (.cells #[.slice ao len cap] 26)) HA.out (by omega) (by omega)
      have HLAY : Hid (∀ t, Lay ps W H t → parsI ps (len + 1) 0 = some (t, len)) := fun t y => by
        have e := congrArg List.length y.eq
        rw [Tr.length_parts, HLL.out] at e
        have p := parsI_complete ps t (len + 1) 0 (by rw [y.eq]; exact PartsAt.self t) y.okP (by omega)
        rw [p, Nat.zero_add, e]
      obtain ⟨w1, w2, g1, g2⟩ := (show 2 ≤ W ∧ W ≤ 24 ∧ 2 ≤ H ∧ H ≤ 10 from of_decide_eq_true h1)
      obtain ⟨l1, l2⟩ := h2
      go_enter Tryd.func17, Tryd.ntmps17
      go_wp2_with (first
        | (go_at_call 35; refine (isSize_any _ _ _).mono ?_; rw [h1]; rintro e w' ⟨rfl, rfl⟩)
        | (go_at_call 36; refine (within_any _ _ _ _).mono ?_; rw [hw]; rintro e w' ⟨rfl, rfl⟩)
        | fail)
      refine HC.out.mono ?_
      rintro e w3 ⟨hb3, ⟨hnone, x, rfl⟩ | ⟨t, en, s, hsome, rfl, ht, hnd, hge⟩⟩
      · have hno : Hid (∀ t, ¬ Lay ps W H t) := fun t y => by rw [HLAY.out t y] at hnone; cases hnone
        have HB3 := HB.trans (hb3.mono HB.size)
        clear hnone x0 hb3
        go_wp2
        go_ret2
        exact ⟨HB3, .inl ⟨hno.out, rfl⟩⟩
      · have HB3 : Below w.heap.size w w3 := HB.trans (hb3.mono HB.size)
        have HX3 : Hid (w3.heap[w.heap.size]? = some (.cells #[.slice ao len cap] 26 (0, 0))) := (hb3.block _ (box_lt HX0.out)).trans HX0.out
        have x3 := box_cells HX3.out 0
        simp only [List.getElem?_toArray, List.getElem?_cons_zero] at x3
        obtain ⟨sp1, sp2, sp3⟩ := parsI_sound ps _ _ _ _ hsome
        rw [Nat.zero_add] at sp2
        have HSOME := Lib.hid hsome
        have hb3z := hb3.size
        clear hsome x0 hb3 HC
        by_cases hen : en = len
        · have hb : ((en : Int) != (len : Int)) = false := by simp [hen]
          have HPS : Hid (ps = t.parts 0) := sp1.all (by rw [HLL.out, ← hen, sp2])
          have hlen11 : t.len ≤ 11 := by omega
          have hlv : t.leaves ≤ 6 := by have := t.len_eq; omega
          have HKP := Lib.hid sp3
          have HT := Lib.hid ht
          have HND := Lib.hid hnd
          have HGE : Hid (∀ b ∈ s.bs, w.heap.size ≤ b) := fun b hb => Nat.le_trans HB.size (hge b hb)
          clear hen sp1 sp2 sp3 ht hnd hge
          have hmm := @run_makeMap Tryd.prog
          have HKEPT : Hid (∀ b ∈ s.bs, (w3.alloc (.map #[] 0)).heap[b]? = w3.heap[b]?) := fun b hb => Below.heap_alloc _ _ _ (TreG.lt HT.out b hb)
          have HTM : Hid (TreI (w3.alloc (.map #[] 0)) s t) := TreG.congr HT.out HKEPT.out
          have HMAP : Hid ((w3.alloc (.map #[] 0)).ownsMap Tryd.prog 3 (plainElem Tryd.prog 4) w3.heap.size 0 (seenD [])) := World.ownsMap_made _ _ _ _
          have HAR := Lib.hid (areas_any t s (w3.alloc (.map #[] 0)) (w3.heap.size + 1) (.slice none 0 0) 0 [] 0 0 W H 24 HTM.out HKP.out (own_none _ _ _ _) (by omega) (by simp) (by omega) (by omega) (by omega) (by omega) (by omega) (by omega) (by omega) (by omega) (by omega))
          have HB4 : Hid (Below w.heap.size w (w3.alloc (.map #[] 0))) := HB3.alloc HB3.size _
          go_wp2_with fail
          refine HAR.out.mono ?_
          rintro e w5 ⟨v5, rfl, hown5, hg5, hr5⟩
          obtain ⟨aA, capA, rfl, hmA⟩ := mine_of_owns hown5
          rw [Nat.zero_add, List.nil_append] at hown5
          rw [List.nil_append] at hmA
          obtain ⟨areas, hareas⟩ : ∃ l, t.areas 0 0 W H = l := ⟨_, rfl⟩
          rw [hareas] at hown5 hmA
          have HLEN : Hid (areas.length = t.leaves) := by show _ = _; rw [← hareas]; exact t.length_areas _ _ _ _
          have HAREAS := Lib.hid hareas
          obtain ⟨mb, hmb⟩ : ∃ mb, w3.heap.size = mb := ⟨_, rfl⟩
          have HT5 : Hid (TreI w5 s t) := TreG.grown HTM.out hg5 (fun b hb e => by simp [Value.ownBlock] at e)
          have HMAP5 : Hid (w5.ownsMap Tryd.prog 3 (plainElem Tryd.prog 4) mb 0 (seenD [])) := by
            show World.ownsMap _ _ _ _ _ _ _
            rw [← hmb]; exact HMAP.out.kept hg5 (by simp [Value.ownBlock])
          have HB5 : Hid (Below w.heap.size w w5) := HB4.out.grown hg5 (HB4.out.size) (fun k h => by simp [Value.ownBlock] at h)
          have hz5 : mb < w5.heap.size := by have := hg5.size; simp at this; omega
          have HMA : Hid (Mine (mb + 1) w5 aA (areasV areas)) := by rw [← hmb]; exact hmA
          have HTL : Hid (∀ b ∈ s.bs, b < mb) := by rw [← hmb]; exact TreG.lt HT.out
          have hmb1 : w.heap.size ≤ mb := by rw [← hmb]; exact HB3.size
          obtain ⟨n, hn⟩ : ∃ n, t.leaves = n := ⟨_, rfl⟩
          rw [hmb]
          have hn6 : n ≤ 6 := by omega
          rw [Nat.zero_add, hn]
          rw [hn] at HLEN
          have HLV : Hid (t.leaves ≤ 6) := hlv
          have HNO : Hid (¬ ((∀ a ∈ areas, 2 ≤ a.w ∧ 2 ≤ a.h ∧ 1 ≤ a.pane ∧ a.pane ≤ 1000) ∧ (areas.map (·.pane)).Nodup) → ∀ t, ¬ Lay ps W H t) := by
            intro hbad t' y
            have e := (HLAY.out t' y).symm.trans HSOME.out
            simp only [Option.some.injEq, Prod.mk.injEq] at e
            obtain ⟨rfl, _⟩ := e
            refine hbad ⟨?_, ?_⟩
            · rw [← HAREAS.out]; exact (Tr.fits_areas _ 0 0 W H).1 y.ft
            · rw [← HAREAS.out, Tr.areas_panes]; exact y.nd
          clear hmm HKEPT HTM HMAP HAR HB4 hown5 hmA hg5 hr5 hareas hmb HT hlv hlen11 hn x3 hb3z HX3 HB3
          go_wp2
          go_loopw [44] (fun i wr => ∃ k : Nat, k ≤ n ∧ i = .int .i64 k ∧ Hid (wr.ownsMap Tryd.prog 3 (plainElem Tryd.prog 4) mb k (seenD ((areas.take k).map (·.pane)))) ∧ Hid (Only [mb] w5 wr) ∧ Hid (okAs areas k)) (fun i _ => n - (intOf i).toNat)
          case atStart => exact ⟨0, Nat.zero_le _, rfl, HMAP5, Only.refl _ _, fun j a hj => absurd hj (by omega)⟩
          case round =>
            obtain ⟨k, hk, rfl, HM, HO, HOK⟩ := hrel
            have HBr : Hid (Below w.heap.size w wr) := HB5.out.trans (HO.out.below (fun x hx => by simp at hx; omega) (by have := HB5.out.size; omega))
            have hzr : w5.heap.size ≤ wr.heap.size := HO.out.size
            by_cases hkn : k < n
            · obtain ⟨p, hp⟩ : ∃ p, areas[k]? = some p := ⟨areas[k]'(by rw [HLEN.out]; exact hkn), List.getElem?_eq_getElem _⟩
              have hAt : At wr aA (areasV areas) := by
                rcases HMA.out with h | ⟨b, off, e, hB, h⟩
                · exact .inl h
                · refine .inr ⟨b, off, e, fun i hi => ?_⟩
                  have hc := (h i hi).1
                  rw [← hc]
                  exact World.cell?_of_block (HO.out.block b (World.block_lt_of_cell? w5 _ hc) (by simp; omega))
              obtain ⟨b, off, rfl, c0, c1, c2, c3, c4⟩ := At.area hAt hp
              obtain ⟨pane, ax, ay, aw, ah⟩ := p
              simp only at c0 c1 c2 c3 c4
              have i1 : (0 : Int) ≤ (k : Int) := by omega
              have i2 : (k : Int) < (n : Int) := by omega
              have HPK := Lib.hid hp
              have hk1 : k + 1 ≤ n := hkn
              have hlo : ∀ x : Prop, True := fun _ => trivial
              clear hAt hp hkn hlo
              have zeroB : ∀ wx, (zeroValue 4).run Tryd.prog wx = .ok (.bool false) wx := fun wx => by kernel_rfl
              have HM2 := HM.out.alloc (.cells #[.int .i64 pane, .int .i64 ax, .int .i64 ay, .int .i64 aw, .int .i64 ah] 32)
              by_cases hpan : 1 ≤ pane ∧ pane ≤ 1000
              · have hpb : (decide (1 ≤ pane) && decide (pane ≤ 1000)) = true := by simp; exact hpan
                have hkey : keyOf Tryd.prog 3 (.int .i64 pane) = some (.int .i64 pane) := Go.Maps.keyOf_int_mk Tryd.underlying3 (by unfold Lit.wf; simp only [Bool.and_eq_true, decide_eq_true_eq]; exact ⟨by show (-9223372036854775808 : Int) ≤ pane; omega, by show pane ≤ 9223372036854775807; omega⟩)
                obtain ⟨cc, hrun, hat⟩ := look_bool HM2 (Go.Maps.int_keyed Tryd.underlying3) Tryd.underlying70 Tryd.underlying4 (zeroB _) hkey
                rw [seenD_at pane _ _ rfl] at hat
                simp only [DataW.lit.injEq, Lit.bool.injEq] at hat
                by_cases hmem : pane ∈ (areas.take k).map (·.pane)
                · have hcc : cc = true := by rw [← hat]; exact decide_eq_true hmem
                  rw [hcc] at hrun
                  have hno := Lib.hid (HNO.out (okAs_not HPK.out (fun h => h.2.1 hmem)))
                  clear hat hcc hmem hpan HM2 zeroB hkey
                  go_wp2_with (go_at_call 18; refine (isPaneId_any _ _).mono ?_; rw [hpb]; rintro e w' ⟨rfl, rfl⟩)
                  all_goals try (exfalso; omega)
                  all_goals
                    go_ret2
                    exact ⟨HBr.out.alloc HBr.out.size _, .inl ⟨hno.out, rfl⟩⟩
                · have hcc : cc = false := by rw [← hat]; exact decide_eq_false hmem
                  rw [hcc] at hrun
                  by_cases hw2 : 2 ≤ aw
                  · by_cases hh2 : 2 ≤ ah
                    · have HOK2 : Hid (okAs areas (k + 1)) := by
                        intro j a hj ha
                        by_cases e : j = k
                        · subst e
                          rw [HPK.out] at ha
                          cases ha
                          exact ⟨hpan, hmem, hw2, hh2⟩
                        · exact HOK.out j a (by omega) ha
                      have HSN : Hid (seenD ((areas.take (k + 1)).map (·.pane)) = (seenD ((areas.take k).map (·.pane))).put (.int .i64 pane) (.lit (.bool true))) := by
                        show _ = _
                        have hlt := (List.getElem?_eq_some_iff.1 HPK.out).1
                        have hge := (List.getElem?_eq_some_iff.1 HPK.out).2
                        rw [List.take_succ_eq_append_getElem hlt, List.map_append, hge, ← seenD_snoc]; rfl
                      have t1 : decide (aw < 2) = false := decide_eq_false (by omega)
                      have t2 : decide (ah < 2) = false := decide_eq_false (by omega)
                      have HMM := Lib.hid HM2
                      have HKY := Lib.hid hkey
                      clear hat hcc hmem hpan HM2 zeroB hw2 hh2 hkey
                      go_wp2_with (first
                        | (go_at_call 18; refine (isPaneId_any _ _).mono ?_; rw [hpb]; rintro e w' ⟨rfl, rfl⟩)
                        | (at_mapUpdate; refine wpList_mapUpdate_own _ rfl _ _ _ 70 rfl 3 4 (Go.Maps.int_keyed Tryd.underlying3) Tryd.underlying70 _ mb k _ rfl HMM.out (by unfold maxLen; omega) _ _ _ rfl rfl HKY.out _ [] (plainElem_bool Tryd.underlying4 true) ?_; intro w6 hown6 hgrow6))
                      have HM6 : Hid (w6.ownsMap Tryd.prog 3 (plainElem Tryd.prog 4) mb (k + 1) (seenD ((areas.take (k + 1)).map (·.pane)))) := by show World.ownsMap _ _ _ _ _ _ _; rw [HSN.out]; exact hown6
                      have HO6 : Hid (Only [mb] w5 w6) := by
                        refine HO.out.trans ?_
                        have h1 : Only [mb] wr (wr.alloc (.cells #[.int .i64 pane, .int .i64 ax, .int .i64 ay, .int .i64 aw, .int .i64 ah] 32)) := Only.of_below ((Below.refl _ _).alloc (Nat.le_refl _) _)
                        exact h1.trans ⟨hgrow6.os, hgrow6.tape, hgrow6.output, hgrow6.size, fun q hq hnq => hgrow6.block q hq (fun e => hnq (by injection e with e; simp [e]))⟩
                      clear hown6 hgrow6 hrun t1 t2
                      go_wp2
                      go_roundw
                      case rel => exact ⟨k + 1, hk1, by go_num, HM6, HO6, HOK2⟩
                      case measure => simp [intOf]; omega
                    · have hno := Lib.hid (HNO.out (okAs_not HPK.out (fun h => hh2 h.2.2.2)))
                      have t1 : decide (aw < 2) = false := decide_eq_false (by omega)
                      have t2 : decide (ah < 2) = true := decide_eq_true (by omega)
                      clear hat hcc hmem hpan HM2 zeroB hkey hh2 hw2
                      go_wp2_with (go_at_call 18; refine (isPaneId_any _ _).mono ?_; rw [hpb]; rintro e w' ⟨rfl, rfl⟩)
                      all_goals
                        go_ret2
                        exact ⟨HBr.out.alloc HBr.out.size _, .inl ⟨hno.out, rfl⟩⟩
                  · have hno := Lib.hid (HNO.out (okAs_not HPK.out (fun h => hw2 h.2.2.1)))
                    have t1 : decide (aw < 2) = true := decide_eq_true (by omega)
                    clear hat hcc hmem hpan HM2 zeroB hkey hw2
                    go_wp2_with (go_at_call 18; refine (isPaneId_any _ _).mono ?_; rw [hpb]; rintro e w' ⟨rfl, rfl⟩)
                    all_goals
                      go_ret2
                      exact ⟨HBr.out.alloc HBr.out.size _, .inl ⟨hno.out, rfl⟩⟩
              · have hpb : (decide (1 ≤ pane) && decide (pane ≤ 1000)) = false := by rw [Bool.eq_false_iff]; simp; omega
                have hno := Lib.hid (HNO.out (okAs_not HPK.out (fun h => hpan h.1)))
                clear hpan HM2 zeroB
                go_wp2_with (go_at_call 18; refine (isPaneId_any _ _).mono ?_; rw [hpb]; rintro e w' ⟨rfl, rfl⟩)
                all_goals
                  go_ret2
                  exact ⟨HBr.out.alloc HBr.out.size _, .inl ⟨hno.out, rfl⟩⟩
            · have hke : k = n := by omega
              have hall := okAs_all (l := areas) (by rw [HLEN.out, ← hke]; exact HOK.out)
              have HY : Hid (Lay ps W H t) := by
                have e1 := HAREAS.out
                refine ⟨w1, w2, g1, g2, HLV.out, HPS.out, (Tr.fits_areas t 0 0 W H).2 (by rw [e1]; exact hall.1), ?_⟩
                have e2 := t.areas_panes 0 0 W H
                rw [← e2, e1]; exact hall.2
              have HT6 : Hid (TreI wr s t) := TreG.only HT5.out HO.out (fun b hb hm => by simp at hm; have := HTL.out b hb; omega)
              have q0 : decide ((k : Int) < (n : Int)) = false := decide_eq_false (by omega)
              clear hall hke
              go_wp2
              go_ret2
              exact ⟨HBr.out, .inr ⟨t, s, HY.out, rfl, HT6.out, HND.out, HGE.out⟩⟩
        · have hb : ((en : Int) != (len : Int)) = true := by simp; omega
          have hno : Hid (∀ t, ¬ Lay ps W H t) := fun t y => by
            have := (HLAY.out t y).symm.trans HSOME.out
            simp only [Option.some.injEq, Prod.mk.injEq] at this
            exact hen this.2.symm
          clear hen
          go_wp2
          go_ret2
          exact ⟨HB3, .inl ⟨hno.out, rfl⟩⟩
    · have hw : (decide ((1 : Int) ≤ (len : Int)) && decide ((len : Int) ≤ 11)) = false := by rw [Bool.eq_false_iff]; simp; omega
      have hno : Hid (∀ t, ¬ Lay ps W H t) := fun t y => h2 (by have e := congrArg List.length y.eq; rw [Tr.length_parts, HLL.out] at e; have := t.len_eq; have := y.lv; have := t.leaves_pos; omega)
      clear h2
      go_enter Tryd.func17, Tryd.ntmps17
      go_wp2_with (first
        | (go_at_call 35; refine (isSize_any _ _ _).mono ?_; rw [h1]; rintro e w' ⟨rfl, rfl⟩)
        | (go_at_call 36; refine (within_any _ _ _ _).mono ?_; rw [hw]; rintro e w' ⟨rfl, rfl⟩))
      go_ret2
      exact ⟨HB, .inl ⟨hno.out, rfl⟩⟩
  · have h1' : sizeB W H = false := by cases h : sizeB W H; rfl; exact absurd h h1
    have hno : Hid (∀ t, ¬ Lay ps W H t) := fun t y => h1 (decide_eq_true ⟨y.w1, y.w2, y.h1, y.h2⟩)
    clear h1
    go_enter Tryd.func17, Tryd.ntmps17
    go_wp2_with (go_at_call 35; refine (isSize_any _ _ _).mono ?_; rw [h1']; rintro e w' ⟨rfl, rfl⟩)
    go_ret2
    exact ⟨HB, .inl ⟨hno.out, rfl⟩⟩
end Go.Proofs.YtaacccooidehlaaDoor
