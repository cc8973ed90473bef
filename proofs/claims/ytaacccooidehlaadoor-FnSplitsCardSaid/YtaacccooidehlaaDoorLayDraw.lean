/-
  Contracts of the reference's draw of a layout (LayoutOf): it gives a layout. Conditions: bounds, the code's bytes stand in memory.
-/
import Derived.Test.YtaacccooidehlaaDoorSplitS
import Derived.Test.YtaacccooidehlaaDoorMoveS
import Derived.Test.YtaacccooidehlaaDoorKillS
import Derived.Test.YtaacccooidehlaaDoorLayOne
import Derived.Test.YtaacccooidehlaaDoorSource
import Derived.Deep.RegionWith
namespace Go.Proofs.YtaacccooidehlaaDoor
open Go.ChangeShapes Go.WideShapes Go.ChangeAt Go.RowKit
set_option linter.unusedVariables false
set_option linter.unusedSimpArgs false
set_option maxRecDepth 100000
theorem chance_any (w : World) (b : Nat) (a : Option Addr) (cap : Nat) (l : List UInt8) (p n : Nat) (h : Src w b a cap l p) (hp : p ≤ 1152921504606846976) (hl : l.length ≤ 4611686018427387904) (hn1 : 1 ≤ n) (hn : n ≤ 1000) :
    Calls Tryd.prog 31 #[.pointer (some ⟨b, 0, none⟩), .int .i64 n] w fun e w' => ∃ (bv : Bool) (q : Nat), e = .returned (.bool bv) ∧ q ≤ p + 3 ∧ Src w' b a cap l q ∧ w.grownBy w' (some b) := by
  have HN := Lib.hid (next_any w b a cap l p n h (by omega) hl (by omega))
  clear h
  go_enter Tryd.func31, Tryd.ntmps31
  go_wp2_with fail
  refine HN.out.mono ?_
  rintro e w1 ⟨x, q, rfl, hx, hq, hS, hg⟩
  have HS := Lib.hid hS
  have HG := Lib.hid hg
  clear hS hg HN
  go_wp2
  go_ret
  exact ⟨_, q, rfl, hq, HS.out, HG.out⟩
/-- a slice of parts that is a layout -/
structure LayM (W H : Int) (ps : List PartV) (n cap : Nat) (t : Tr) : Prop where
  y : Lay ps W H t
  len : ps.length = n
  cap : n ≤ cap
  pn : ∀ p ∈ t.panes, p ≤ 6
def DrawPost (W H : Int) (w : World) (e : Ending) (w' : World) : Prop :=
  ∃ (ao : Option Addr) (n cap : Nat) (ps : List PartV) (t : Tr) (cd : Int), e = .returned (.tuple #[.agg #[.slice ao n cap], .int .i64 cd]) ∧ LayM W H ps n cap t ∧ At w' ao (partsV ps) ∧ Below w.heap.size w w'
theorem draw_of {W H : Int} {w : World} {t' : Tr} {n : Nat} {cd : Int} (y : Lay (t'.parts 0) W H t') (hn : (t'.parts 0).length = n) (hpn : ∀ p ∈ t'.panes, p ≤ 6) (e : Ending) (w' : World) (h : LayAt n (t'.parts 0) cd w e w') : DrawPost W H w e w' := by
  obtain ⟨ao, cap, rfl, hc, hat, hb⟩ := h
  exact ⟨ao, n, cap, _, t', cd, rfl, ⟨y, hn, hc, hpn⟩, hat, hb⟩
theorem killDraw {W H : Int} (ao : Option Addr) {ps : List PartV} {n cap : Nat} {t : Tr} (m : LayM W H ps n cap t) (pn : Int) (w : World) (ha : At w ao (partsV ps)) :
    Calls Tryd.prog 29 #[.agg #[.slice ao n cap], .int .i64 W, .int .i64 H, .int .i64 pn] w (DrawPost W H w) := by
  obtain ⟨t', cd, hk⟩ := killO_total W H pn t
  refine (l05KillArea_any ao n cap ps m.len m.cap W H pn t m.y _ _ cd ⟨t', hk, rfl⟩ rfl w ha).mono (draw_of (killO_ok m.y hk) rfl ?_)
  rcases hk with ⟨_, rfl, _⟩ | ⟨_, _, rfl, _⟩ | ⟨hp, h1, rfl, _⟩
  · exact m.pn
  · exact m.pn
  · intro q hq
    rw [(kill_fit_facts m.y hp h1).2.2.2.2.2] at hq
    exact m.pn q (List.mem_of_mem_erase hq)
theorem moveDraw {W H : Int} (ao : Option Addr) {ps : List PartV} {n cap : Nat} {t : Tr} (m : LayM W H ps n cap t) (pn by_ : Int) (h1 : -100 ≤ by_) (h2 : by_ ≤ 100) (w : World) (ha : At w ao (partsV ps)) :
    Calls Tryd.prog 30 #[.agg #[.slice ao n cap], .int .i64 W, .int .i64 H, .int .i64 pn, .int .i64 by_] w (DrawPost W H w) := by
  obtain ⟨t', cd, hk⟩ := moveO_total W H pn by_ t
  refine (l05MoveSplit_any ao n cap ps m.len m.cap W H pn by_ h1 h2 t m.y _ _ cd ⟨t', hk, rfl⟩ rfl w ha).mono (draw_of (moveO_ok m.y hk) rfl ?_)
  rcases hk with ⟨_, rfl, _⟩ | ⟨_, _, rfl, _⟩ | ⟨hp, h1, rfl, _⟩
  · exact m.pn
  · exact m.pn
  · intro q hq
    rw [(move_fit_facts m.y pn by_).2.2.2.2.2] at hq
    exact m.pn q hq
theorem splitDraw {W H : Int} (ao : Option Addr) {ps : List PartV} {n cap : Nat} {t : Tr} (m : LayM W H ps n cap t) (pn fr : Int) (h1 : 1 ≤ fr) (h3 : fr ≤ 6) (rws : Bool) (w : World) (ha : At w ao (partsV ps)) :
    Calls Tryd.prog 22 #[.agg #[.slice ao n cap], .int .i64 W, .int .i64 H, .int .i64 pn, .int .i64 fr, .bool rws] w (DrawPost W H w) := by
  have h2 : fr ≤ 1000 := by omega
  obtain ⟨t', cd, hk⟩ := splitO_total W H pn fr rws t
  refine (l05SplitArea_any ao n cap ps m.len m.cap W H pn fr rws t m.y _ _ cd ⟨h1, h2, t', hk, rfl⟩ rfl w ha).mono (draw_of (splitO_ok m.y h1 h2 hk) rfl ?_)
  rcases hk with ⟨_, rfl, _⟩ | ⟨_, _, rfl, _⟩ | ⟨_, _, _, rfl, _⟩ | ⟨_, _, _, _, rfl, _⟩ | ⟨hp, hf, h6, hw, rfl, _⟩
  · exact m.pn
  · exact m.pn
  · exact m.pn
  · exact m.pn
  · intro q hq
    rcases ((Tr.split_facts (fresh := fr) (rw_ := rws) (w := W) (h := H) m.y.nd hp).1 q).1 hq with h | h
    · exact m.pn q h
    · omega
/-- parts do not lie in the source's block -/
theorem parts_apart {w : World} {b : Nat} {a : Option Addr} {cp : Nat} {l : List UInt8} {p : Nat} {ao : Option Addr} {ps : List PartV} (h : Src w b a cp l p) (ha : At w ao (partsV ps)) : partsV ps = [] ∨ ∀ x, ao = some x → x.block ≠ b := by
  rcases ha with h0 | ⟨b2, off, rfl, hc⟩
  · exact .inl h0
  · cases ps with
    | nil => exact .inl rfl
    | cons q qs =>
      refine .inr fun x hx e => ?_
      obtain rfl := Option.some.inj hx
      obtain ⟨sd, _, hh, _⟩ := h
      subst e
      have h1 := hc 1 (by rw [length_partsV]; simp; omega)
      have e1 : (partsV (q :: qs))[1]'(by rw [length_partsV]; simp; omega) = .bool q.rows := rfl
      rw [e1, box_cells hh] at h1
      match off, h1 with
      | 0, h1 => simp at h1
      | 1, h1 => simp at h1
      | off + 2, h1 => simp at h1
theorem src_below {C : Nat} {w w' : World} {b : Nat} {a : Option Addr} {cp : Nat} {l : List UInt8} {p : Nat} (h : Src w b a cp l p) (hb : Below C w w') (hC : w.heap.size ≤ C) : Src w' b a cp l p := by
  obtain ⟨sd, h1, h2, h3, h4⟩ := h
  exact ⟨sd, h1, box_below h2 hb (Nat.lt_of_lt_of_le (box_lt h2) hC), h3.below hb hC, h4⟩
theorem src_drew {w : World} {b : Nat} {a : Option Addr} {cp : Nat} {l : List UInt8} {p : Nat} (h : Src w b a cp l p) : Src w.drew b a cp l p := h
theorem src_lt {w : World} {b : Nat} {a : Option Addr} {cp : Nat} {l : List UInt8} {p : Nat} (h : Src w b a cp l p) : b < w.heap.size := by obtain ⟨_, _, h, _⟩ := h; exact box_lt h
/-- a drawn layout under way: the source, the layout's variable, the result's variable -/
structure St (W H : Int) (w : World) (rb lb b : Nat) (a : Option Addr) (cp : Nat) (l : List UInt8) (q : Nat) (ao : Option Addr) (n c : Nat) (ps : List PartV) (t : Tr) (wr : World) : Prop where
  src : Src wr b a cp l q
  m : LayM W H ps n c t
  pa : At wr ao (partsV ps)
  hl : wr.heap[lb]? = some (.cells #[.slice ao n c] 26 (0, 0))
  hr : wr.heap[rb]? = some (.cells #[.slice none 0 0] 26 (0, 0))
  g : w.grownBy wr (some b)
  s0 : Src w b a cp l 0
  lw : w.heap.size ≤ lb
  rw' : w.heap.size ≤ rb
  ne : rb ≠ lb
section
variable {W H : Int} {w wr : World} {rb lb b : Nat} {a : Option Addr} {cp : Nat} {l : List UInt8} {q : Nat} {ao : Option Addr} {n c : Nat} {ps : List PartV} {t : Tr}
theorem St.drew (h : St W H w rb lb b a cp l q ao n c ps t wr) : St W H w rb lb b a cp l q ao n c ps t wr.drew := ⟨h.src, h.m, h.pa, h.hl, h.hr, gb_trans h.g (gb_drew wr _), h.s0, h.lw, h.rw', h.ne⟩
theorem St.next (h : St W H w rb lb b a cp l q ao n c ps t wr) {q' : Nat} {w' : World} (hs : Src w' b a cp l q') (hg : wr.grownBy w' (some b)) : St W H w rb lb b a cp l q' ao n c ps t w' := by
  have hb := src_lt h.s0
  refine ⟨hs, h.m, at_grown h.pa (parts_apart h.src h.pa) hg, (hg.block lb (box_lt h.hl) (fun e => ?_)).trans h.hl, (hg.block rb (box_lt h.hr) (fun e => ?_)).trans h.hr, gb_trans h.g hg, h.s0, h.lw, h.rw', h.ne⟩
  · injection e with e; have := h.lw; omega
  · injection e with e; have := h.rw'; omega
theorem St.below (h : St W H w rb lb b a cp l q ao n c ps t wr) {w' : World} (hb : Below wr.heap.size wr w') : St W H w rb lb b a cp l q ao n c ps t w' :=
  ⟨src_below h.src hb (Nat.le_refl _), h.m, h.pa.below hb (Nat.le_refl _), box_below h.hl hb (box_lt h.hl), box_below h.hr hb (box_lt h.hr), gb_trans h.g (grownBy_of_below _ hb), h.s0, h.lw, h.rw', h.ne⟩
theorem St.store (h : St W H w rb lb b a cp l q ao n c ps t wr) {ao' : Option Addr} {n' c' : Nat} {ps' : List PartV} {t' : Tr} (m : LayM W H ps' n' c' t') (ha : At wr ao' (partsV ps')) : St W H w rb lb b a cp l q ao' n' c' ps' t' (wr.setCell ⟨lb, 0, none⟩ (.slice ao' n' c')) := by
  have hb := src_lt h.s0
  have hbl : b ≠ lb := by have := h.lw; omega
  have hg : w.grownBy (wr.setCell ⟨lb, 0, none⟩ (.slice ao' n' c')) (some b) :=
    ⟨h.g.os, h.g.tape, h.g.output, by have := h.g.size; simpa [World.setCell] using this, fun k hk hn => (Below.heap_setCell _ _ _ _ (by have := h.lw; dsimp only; omega)).trans (h.g.block k hk hn)⟩
  obtain ⟨sd0, z1, z2, z3, z4⟩ := h.s0
  obtain ⟨sd, y1, y2, y3, y4⟩ := h.src
  refine ⟨⟨sd, y1, ?_, at_grown z3 z4 hg, z4⟩, m, ?_, set_heap h.hl 0 _, ?_, hg, h.s0, h.lw, h.rw', h.ne⟩
  · rw [Below.heap_setCell _ _ _ _ hbl]; exact y2
  · rcases ha with h0 | ⟨b2, off, rfl, hc⟩
    · exact .inl h0
    · refine .inr ⟨b2, off, rfl, fun i hi => ?_⟩
      have hne : b2 ≠ lb := by
        intro e
        subst e
        have hp : 5 ≤ (partsV ps').length := by rw [length_partsV, m.len]; have := m.y.len; have := m.len; omega
        have h1 := hc 1 (by omega)
        rw [box_cells h.hl] at h1
        match off, h1 with
        | 0, h1 => simp at h1
        | off + 1, h1 => simp at h1
      rw [World.cell?_setCell_other _ _ _ _ (fun e => hne (by injection e with e1; exact e1.symm))]
      exact hc i hi
  · rw [Below.heap_setCell _ _ _ _ h.ne]; exact h.hr
end
attribute [local irreducible] wpList
set_option maxHeartbeats 8000000 in
theorem layout_any (w : World) (b : Nat) (a : Option Addr) (cp : Nat) (l : List UInt8) (h : Src w b a cp l 0) (hl : l.length ≤ 4611686018427387904) (W H : Int) (hw1 : 2 ≤ W) (hw2 : W ≤ 24) (hh1 : 2 ≤ H) (hh2 : H ≤ 10) :
    Calls Tryd.prog 14 #[.pointer (some ⟨b, 0, none⟩), .int .i64 W, .int .i64 H] w fun e w' => ∃ (ao : Option Addr) (n cap : Nat) (ps : List PartV) (t : Tr), e = .returned (.agg #[.slice ao n cap]) ∧ LayM W H ps n cap t ∧ Mine w.heap.size w' ao (partsV ps) ∧ w.grownBy w' (some b) := by
  have HO := Lib.hid (l05One_any 1 (w.alloc (.cells #[.slice none 0 0] 26)))
  have HS0 := Lib.hid h
  have hbw := src_lt h
  clear h
  go_enter Tryd.func14, Tryd.ntmps14
  go_wp2_with fail
  refine HO.out.mono ?_
  rintro e w1 ⟨ao, rfl, hm, hb1⟩
  have hz1 : w.heap.size + 1 ≤ w1.heap.size := by have := hb1.size; simpa using this
  have hA0 : Below w.heap.size w (w.alloc (.cells #[.slice none 0 0] 26)) := (Below.refl _ _).alloc (Nat.le_refl _) _
  have hB1 : Below w.heap.size w w1 := hA0.trans (hb1.mono (by simp))
  have hA1 : Below w1.heap.size w1 (w1.alloc (.cells #[.slice ao 1 1] 26)) := (Below.refl _ _).alloc (Nat.le_refl _) _
  have HST : Hid (St W H w w.heap.size w1.heap.size b a cp l 0 ao 1 1 [⟨1, false, 0, -1, -1⟩] (.leaf 1) (w1.alloc (.cells #[.slice ao 1 1] 26))) := by
    have hB : Below w.heap.size w (w1.alloc (.cells #[.slice ao 1 1] 26)) := hB1.trans (hA1.mono (by omega))
    refine ⟨src_below HS0.out hB (Nat.le_refl _), ⟨⟨hw1, hw2, hh1, hh2, by simp [Tr.leaves], rfl, ⟨hw1, hh1, by omega, by omega⟩, by simp [Tr.panes]⟩, rfl, Nat.le_refl _, by simp [Tr.panes]⟩, hm.at.below hA1 (Nat.le_refl _), heap_alloc_new w1 _, ?_, grownBy_of_below _ hB, HS0.out, by omega, Nat.le_refl _, by omega⟩
    exact box_below (box_below (box_new w _) hb1 (by simp)) hA1 (by omega)
  have HN := Lib.hid (next_any _ b a cp l 0 7 HST.out.src (by omega) hl (by omega))
  clear hm hb1 hA0 hB1 hA1 HO
  go_wp2_with fail
  generalize hv : w1.alloc (.cells #[.slice ao 1 1] 26) = v1 at *
  clear hv
  refine HN.out.mono ?_
  rintro e w2 ⟨x, q2, rfl, hx, hq2, hS2, hg2⟩
  have HST2 := Lib.hid (HST.out.next hS2 hg2)
  obtain ⟨lb, hlb⟩ : ∃ lb, w1.heap.size = lb := ⟨_, rfl⟩
  rw [hlb] at HST2 ⊢
  have hx6 : x ≤ 6 := by omega
  clear hS2 hg2 HN HST hx hlb hz1
  have HIN : Hid (∃ (q : Nat) (ao : Option Addr) (n c : Nat) (ps : List PartV) (t : Tr), q ≤ 3 + 100 * (6 - x) ∧ St W H w w.heap.size lb b a cp l q ao n c ps t w2) := ⟨q2, _, _, _, _, _, by omega, HST2.out⟩
  clear HST2
  go_wp2_with fail
  go_loopw [8] (fun i wr => ∃ k : Nat, k ≤ 6 ∧ i = .int .i64 k ∧ Hid (∃ (q : Nat) (ao : Option Addr) (n c : Nat) (ps : List PartV) (t : Tr), q ≤ 3 + 100 * (6 - k) ∧ St W H w w.heap.size lb b a cp l q ao n c ps t wr)) (fun i _ => (intOf i).toNat)
  case atStart => exact ⟨x, hx6, rfl, HIN⟩
  case round =>
    obtain ⟨k, hk, rfl, hst⟩ := hrel
    clear HIN
    obtain ⟨q, ao, n, c, ps, t, hq, hS⟩ := hst.out
    have HSR := Lib.hid hS
    clear hst
    by_cases hk0 : 0 < k
    · obtain ⟨k, rfl⟩ : ∃ j, k = j + 1 := ⟨k - 1, by omega⟩
      have HN := Lib.hid (next_any wr b a cp l q 5 HSR.out.src (by omega) hl (by omega))
      clear hS
      go_wp2_with fail
      refine HN.out.mono ?_
      rintro e w3 ⟨y, q3, rfl, hy, hq3, hS3, hg3⟩
      have HS3 := Lib.hid (HSR.out.next hS3 hg3)
      clear hS3 hg3 HN HSR
      rcases (show y = 0 ∨ y = 1 ∨ 2 ≤ y by omega) with h | h | h
      · subst h
        have HS3d := HS3.out.drew
        have z3 := box_cells HS3.out.hl 0
        simp only [List.getElem?_toArray, List.getElem?_cons_zero] at z3
        go_wp2_with fail
        go_region_with (first | (go_at_call 29; refine (killDraw ao HS4.m (1 + (x4 : Int)) w4 HS4.pa).mono ?_; rintro e wE ⟨aoE, nE, cE, psE, tE, cdE, rfl, mE, haE, hbE⟩; have HSE := HS4.below hbE; have zE := box_cells HSE.hl 0; have fE := box_free HSE.hl 0; simp only [List.getElem?_toArray, List.getElem?_cons_zero] at zE) | (go_at_call 28; refine (next_any w3.drew b a cp l q3 6 (HS3d.src) (by omega) hl (by omega)).mono ?_; rintro e w4 ⟨x4, q4, rfl, hx4, hq4, hS4, hg4⟩; have HS4 := HS3d.next hS4 hg4; have z4 := box_cells HS4.hl 0; simp only [List.getElem?_toArray, List.getElem?_cons_zero] at z4; have hx4' : x4 ≤ 5 := (by omega); have wx4 : IntKind.i64.wrap (1 + (x4 : Int)) = 1 + (x4 : Int) := (by rw [IntKind.wrap_i64]; omega)) | fail)
        all_goals
          go_wp2
          go_roundw
          case rel => exact ⟨k, by omega, by go_num, ⟨q4, _, _, _, _, _, by omega, HSE.store mE haE⟩⟩
          case measure => simp [intOf] <;> omega
      · subst h
        have HS3d := HS3.out.drew
        have z3 := box_cells HS3.out.hl 0
        simp only [List.getElem?_toArray, List.getElem?_cons_zero] at z3
        go_wp2_with fail
        go_region_with (first | (go_at_call 30; refine (moveDraw ao HS5.m (1 + (x4 : Int)) ((x5 : Int) - 4) (by omega) (by omega) w5 HS5.pa).mono ?_; rintro e wE ⟨aoE, nE, cE, psE, tE, cdE, rfl, mE, haE, hbE⟩; have HSE := HS5.below hbE; have zE := box_cells HSE.hl 0; have fE := box_free HSE.hl 0; simp only [List.getElem?_toArray, List.getElem?_cons_zero] at zE) | (have _nd := HS4; go_at_call 28; refine (next_any w4 b a cp l q4 9 (HS4.src) (by omega) hl (by omega)).mono ?_; rintro e w5 ⟨x5, q5, rfl, hx5, hq5, hS5, hg5⟩; have HS5 := HS4.next hS5 hg5; have z5 := box_cells HS5.hl 0; simp only [List.getElem?_toArray, List.getElem?_cons_zero] at z5; have hx5' : x5 ≤ 8 := (by omega); have wx5 : IntKind.i64.wrap ((x5 : Int) - 4) = (x5 : Int) - 4 := (by rw [IntKind.wrap_i64]; omega)) | (go_at_call 28; refine (next_any w3.drew b a cp l q3 6 (HS3d.src) (by omega) hl (by omega)).mono ?_; rintro e w4 ⟨x4, q4, rfl, hx4, hq4, hS4, hg4⟩; have HS4 := HS3d.next hS4 hg4; have z4 := box_cells HS4.hl 0; simp only [List.getElem?_toArray, List.getElem?_cons_zero] at z4; have hx4' : x4 ≤ 5 := (by omega); have wx4 : IntKind.i64.wrap (1 + (x4 : Int)) = 1 + (x4 : Int) := (by rw [IntKind.wrap_i64]; omega)) | fail)
        all_goals
          go_wp2
          go_roundw
          case rel => exact ⟨k, by omega, by go_num, ⟨q5, _, _, _, _, _, by omega, HSE.store mE haE⟩⟩
          case measure => simp [intOf] <;> omega
      · have e0 : ((y : Int) == 0) = false := by rw [beq_eq_false_iff_ne]; omega
        have e1 : ((y : Int) == 1) = false := by rw [beq_eq_false_iff_ne]; omega
        have HS3d := HS3.out.drew
        have z3 := box_cells HS3.out.hl 0
        simp only [List.getElem?_toArray, List.getElem?_cons_zero] at z3
        go_wp2_with fail
        go_region_with (first | (go_at_call 22; refine (splitDraw ao HS6.m (1 + (x4 : Int)) (1 + (x5 : Int)) (by omega) (by omega) bv w6 HS6.pa).mono ?_; rintro e wE ⟨aoE, nE, cE, psE, tE, cdE, rfl, mE, haE, hbE⟩; have HSE := HS6.below hbE; have zE := box_cells HSE.hl 0; have fE := box_free HSE.hl 0; simp only [List.getElem?_toArray, List.getElem?_cons_zero] at zE) | (go_at_call 31; refine (chance_any w5 b a cp l q5 2 HS5.src (by omega) hl (by omega) (by omega)).mono ?_; rintro e w6 ⟨bv, q6, rfl, hq6, hS6, hg6⟩; have HS6 := HS5.next hS6 hg6; have z6 := box_cells HS6.hl 0; simp only [List.getElem?_toArray, List.getElem?_cons_zero] at z6) | (have _nd := HS4; go_at_call 28; refine (next_any w4 b a cp l q4 6 (HS4.src) (by omega) hl (by omega)).mono ?_; rintro e w5 ⟨x5, q5, rfl, hx5, hq5, hS5, hg5⟩; have HS5 := HS4.next hS5 hg5; have z5 := box_cells HS5.hl 0; simp only [List.getElem?_toArray, List.getElem?_cons_zero] at z5; have hx5' : x5 ≤ 5 := (by omega); have wx5 : IntKind.i64.wrap (1 + (x5 : Int)) = 1 + (x5 : Int) := (by rw [IntKind.wrap_i64]; omega)) | (go_at_call 28; refine (next_any w3.drew b a cp l q3 6 (HS3d.src) (by omega) hl (by omega)).mono ?_; rintro e w4 ⟨x4, q4, rfl, hx4, hq4, hS4, hg4⟩; have HS4 := HS3d.next hS4 hg4; have z4 := box_cells HS4.hl 0; simp only [List.getElem?_toArray, List.getElem?_cons_zero] at z4; have hx4' : x4 ≤ 5 := (by omega); have wx4 : IntKind.i64.wrap (1 + (x4 : Int)) = 1 + (x4 : Int) := (by rw [IntKind.wrap_i64]; omega)) | fail)
        all_goals
          go_wp2
          go_roundw
          case rel => exact ⟨k, by omega, by go_num, ⟨q6, _, _, _, _, _, by omega, HSE.store mE haE⟩⟩
          case measure => simp [intOf] <;> omega
    · have hk1 : k = 0 := by omega
      subst hk1
      have z3 := box_cells hS.hl 0
      have HR := Lib.hid hS.hr
      simp only [List.getElem?_toArray, List.getElem?_cons_zero] at z3
      have HW := Lib.hid (l05Own_any ao n c ps hS.m.len (by have := hS.m.len; have := hS.m.y.len; omega) (by have := hS.m.len; have := hS.m.y.len; omega) wr hS.pa)
      clear hS
      go_wp2_with fail
      refine HW.out.mono ?_
      rintro e w4 ⟨a4, c4, rfl, hc4, hm4, hb4⟩
      have X4 := box_below HR.out hb4 (box_lt HR.out)
      have x4 := box_cells X4 0
      have f4 := box_free X4 0
      simp only [List.getElem?_toArray, List.getElem?_cons_zero] at x4
      have HG := Lib.hid (gb_trans HSR.out.g (grownBy_of_below (some b) hb4))
      have HM := Lib.hid hm4
      have HC4 := Lib.hid hc4
      have hzr : w.heap.size + 1 ≤ wr.heap.size := by have := box_lt HR.out; omega
      clear hm4 hb4 hc4 X4 HW z3
      go_wp2
      refine bodyPost_ret (v := .agg #[.slice a4 n c4]) (by simp [results, Tryd.results14, x4, go_sem]) rfl ⟨a4, n, c4, ps, t, rfl, ⟨HSR.out.m.y, HSR.out.m.len, HC4.out, HSR.out.m.pn⟩, ?_, ?_⟩
      · exact (HM.out.set_oth (by dsimp only; omega) _).mono (by omega)
      · exact ⟨HG.out.os, HG.out.tape, HG.out.output, by have := HG.out.size; simpa [World.setCell] using this, fun k hk hn => (Below.heap_setCell _ _ _ _ (by dsimp only; omega)).trans (HG.out.block k hk hn)⟩
end Go.Proofs.YtaacccooidehlaaDoor
