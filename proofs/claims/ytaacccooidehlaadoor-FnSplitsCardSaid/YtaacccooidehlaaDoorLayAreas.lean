/-
  Contract of the given program's areas: the areas of all panes behind those of a list of the call's own. Conditions: the tree lies so, bounds.
-/
import Derived.Test.YtaacccooidehlaaDoorLayFit
import Derived.Deep.AppendLies
namespace Go.Proofs.YtaacccooidehlaaDoor
open Go.ChangeShapes Go.WideShapes Go.ChangeAt Go.RowKit
set_option linter.unusedVariables false
set_option linter.unusedSimpArgs false
set_option maxRecDepth 100000

def areaC (a : AreaV) : List Value := [.int .i64 a.pane, .int .i64 a.x, .int .i64 a.y, .int .i64 a.w, .int .i64 a.h]
def areasV (l : List AreaV) : List Value := l.flatMap areaC
theorem areasV_append (a b : List AreaV) : areasV (a ++ b) = areasV a ++ areasV b := by simp [areasV]
theorem Tryd.info_area : (Tryd.prog.info? 32).map (fun i => (i.zero, i.size, i.bytes)) = some (some (.agg #[.int .i64 0, .int .i64 0, .int .i64 0, .int .i64 0, .int .i64 0]), 5, 40) := by kernel_rfl
/-- an owned row of another element type lies apart from a tree -/
theorem own_apart {lfC : Int → Array Value} {ndC : Bool → Int → Nat → Nat → Array Value} {T : TypeId} : ∀ {s : Sh} {t : Tr} {w : World}, TreG lfC ndC T w s t → ∀ {base e size n : Nat} {v : Value} {xs : List Value}, w.ownsRow base e size v n xs → e ≠ T → ∀ b ∈ s.bs, v.ownBlock ≠ some b := by
  have one : ∀ {w : World} {b : Nat} {cs : Array Value} {T : TypeId} {base e size n : Nat} {v : Value} {xs : List Value}, w.heap[b]? = some (.cells cs T (0, 0)) → w.ownsRow base e size v n xs → e ≠ T → v.ownBlock ≠ some b := by
    intro w b cs T base e size n v xs hb ho hne
    rcases ho.2 with ⟨rfl, _⟩ | ⟨g, cap, cur, rfl, _, hh, _⟩
    · simp [Value.ownBlock]
    · intro he
      have : g = b := by simpa [Value.ownBlock] using he
      subst this
      rw [hb] at hh
      injection hh with hh
      injection hh with _ ht
      exact hne ht.symm
  intro s
  induction s with
  | lf c =>
    intro t w h base e size n v xs ho hne b hb
    cases t with
    | leaf p => simp only [Sh.bs, List.mem_singleton] at hb; subst hb; exact one h ho hne
    | node _ _ _ _ => exact h.elim
  | nd c sl sr ih1 ih2 =>
    intro t w h base e size n v xs ho hne b hb
    cases t with
    | leaf p => exact h.elim
    | node rows sz l r =>
      simp only [Sh.bs, List.mem_cons, List.mem_append] at hb
      rcases hb with rfl | hb | hb
      · exact one h.1 ho hne
      · exact ih1 h.2.1 ho hne b hb
      · exact ih2 h.2.2 ho hne b hb
theorem TreG.grown {lfC : Int → Array Value} {ndC : Bool → Int → Nat → Nat → Array Value} {T : TypeId} {s : Sh} {t : Tr} {w w' : World} {row : Option Nat} (h : TreG lfC ndC T w s t) (hg : w.grownBy w' row) (hn : ∀ b ∈ s.bs, row ≠ some b) : TreG lfC ndC T w' s t :=
  h.congr fun b hb => hg.block b (h.lt b hb) fun e => hn b hb e.symm
/-- the row that an append may have written: the elder one, or a new one -/
def NewRow (w : World) (v v' : Value) : Prop := v'.ownBlock = v.ownBlock ∨ ∃ g, w.heap.size ≤ g ∧ v'.ownBlock = some g
theorem grown_two {a b c : World} {v v1 : Value} (h : a.grownBy b v.ownBlock) (k : b.grownBy c v1.ownBlock) (hr : NewRow a v v1) : a.grownBy c v.ownBlock :=
  ⟨k.os.trans h.os, k.tape.trans h.tape, k.output.trans h.output, Nat.le_trans h.size k.size, fun i hi hn => (k.block i (Nat.lt_of_lt_of_le hi h.size) (by
    rcases hr with hr | ⟨g, hg, hr⟩
    · rw [hr]; exact hn
    · rw [hr]; intro e; injection e with e; omega)).trans (h.block i hi hn)⟩
theorem NewRow.trans {a b : World} {v v1 v2 : Value} (h : NewRow a v v1) (k : NewRow b v1 v2) (hs : a.heap.size ≤ b.heap.size) : NewRow a v v2 := by
  rcases k with k | ⟨g, hg, k⟩
  · rcases h with h | ⟨g, hg, h⟩
    · exact .inl (k.trans h)
    · exact .inr ⟨g, hg, k.trans h⟩
  · exact .inr ⟨g, by omega, k⟩
def AreasPost (t : Tr) (B : Nat) (v : Value) (n : Nat) (xs : List Value) (x y a b : Int) (w : World) (e : Ending) (w' : World) : Prop :=
  ∃ v', e = .returned v' ∧ w'.ownsRow B 32 5 v' (n + t.leaves) (xs ++ areasV (t.areas x y a b)) ∧ w.grownBy w' v.ownBlock ∧ NewRow w v v'

set_option maxHeartbeats 4000000 in
theorem areas_any : ∀ (t : Tr) (s : Sh) (w : World) (B : Nat) (v : Value) (n : Nat) (xs : List Value) (x y a b M : Int), TreI w s t → t.okP → w.ownsRow B 32 5 v n xs → n + t.leaves ≤ 1000 → B ≤ w.heap.size →
    -M ≤ x → x ≤ M → -M ≤ y → y ≤ M → -M ≤ a → a ≤ M → -M ≤ b → b ≤ M → M + 24 * t.len ≤ 1000000000 →
    Calls Tryd.prog 24 #[.pointer (some ⟨s.root, 0, none⟩), v, .int .i64 x, .int .i64 y, .int .i64 a, .int .i64 b] w (AreasPost t B v n xs x y a b w) := by
  intro t
  induction t with
  | leaf p =>
    intro s w B v n xs x y a b M h hp hown hl hB x1 x2 y1 y2 a1 a2 b1 b2 hM
    obtain ⟨i0, hi, hz0, hz1, hz2⟩ := info_parts Tryd.info_area
    obtain ⟨c, rfl, hc⟩ := TreG.leaf h
    have hx := box_cells hc
    have hp := bne_iff_ne.2 (show p ≠ 0 from hp)
    unfold areaLf at hx
    simp only [Tr.leaves] at hl
    show Calls _ _ #[.pointer (some ⟨c, 0, none⟩), _, _, _, _, _] _ _
    clear h hc
    go_enter Tryd.func24, Tryd.ntmps24
    go_wp2_with (at_builtin; (refine wpList_append_lies _ rfl (.tmp 19) (.tmp 29) 28 rfl B 32 i0 (.agg #[.int .i64 0, .int .i64 0, .int .i64 0, .int .i64 0, .int .i64 0]) 5 40 Tryd.underlying28 hi hz0 hz1 hz2 rfl (by decide) v n xs rfl (hown.alloc _) ⟨w.heap.size, 0, none⟩ 1 1 [.int .i64 p, .int .i64 x, .int .i64 y, .int .i64 a, .int .i64 b] rfl rfl (fun j u hu => World.news_of_block (heap_alloc_new _ _) j u hu) (by intro u hu; simp at hu; rcases hu with rfl | rfl | rfl | rfl | rfl <;> rfl) (by decide) (by unfold maxLen; omega) (by omega) (by simp; omega) _ rfl ?_; intro g cap w2 hown2 hgrow2 hlie2 hlt2))
    go_ret
    refine ⟨_, rfl, hown2, ?_, ?_⟩
    · have hk : w.grownBy (w.alloc (.cells #[.int .i64 p, .int .i64 x, .int .i64 y, .int .i64 a, .int .i64 b] 32)) v.ownBlock := World.grownBy_alloc w _ _
      exact ⟨hgrow2.os, hgrow2.tape, hgrow2.output, Nat.le_trans hk.size hgrow2.size, fun k hk1 hk2 => (hgrow2.block k (Nat.lt_of_lt_of_le hk1 hk.size) hk2).trans (hk.block k hk1 hk2)⟩
    · rcases hlie2 with h | h
      · exact .inl h.symm
      · exact .inr ⟨g, by rw [h]; simp, rfl⟩
  | node rows size l r ihl ihr =>
    intro s w B v n xs x y a b M h hp hown hl hB x1 x2 y1 y2 a1 a2 b1 b2 hM
    obtain ⟨c, sl, sr, rfl, hc, h1, h2⟩ := TreG.node h
    obtain ⟨p1, p2, p3, p4⟩ := hp
    simp only [Tr.leaves, Tr.len] at hl hM
    have nl := l.len_pos
    have nr := r.len_pos
    have HOW := Lib.hid hown
    have HAP := Lib.hid (own_apart h hown (by decide))
    have HL : Hid (∀ (wx : World) (v : Value) (n : Nat) (xs : List Value) (x y a b : Int), TreI wx sl l → wx.ownsRow B 32 5 v n xs → n + l.leaves ≤ 1000 → B ≤ wx.heap.size → -(M + 24) ≤ x → x ≤ M + 24 → -(M + 24) ≤ y → y ≤ M + 24 → -(M + 24) ≤ a → a ≤ M + 24 → -(M + 24) ≤ b → b ≤ M + 24 → Calls Tryd.prog 24 #[.pointer (some ⟨sl.root, 0, none⟩), v, .int .i64 x, .int .i64 y, .int .i64 a, .int .i64 b] wx (AreasPost l B v n xs x y a b wx)) :=
      fun wx v n xs x y a b ht ho hl2 hB2 c1 c2 c3 c4 c5 c6 c7 c8 => ihl sl wx B v n xs x y a b (M + 24) ht p3 ho hl2 hB2 c1 c2 c3 c4 c5 c6 c7 c8 (by omega)
    have HR : Hid (∀ (wx : World) (v : Value) (n : Nat) (xs : List Value) (x y a b : Int), TreI wx sr r → wx.ownsRow B 32 5 v n xs → n + r.leaves ≤ 1000 → B ≤ wx.heap.size → -(M + 24) ≤ x → x ≤ M + 24 → -(M + 24) ≤ y → y ≤ M + 24 → -(M + 24) ≤ a → a ≤ M + 24 → -(M + 24) ≤ b → b ≤ M + 24 → Calls Tryd.prog 24 #[.pointer (some ⟨sr.root, 0, none⟩), v, .int .i64 x, .int .i64 y, .int .i64 a, .int .i64 b] wx (AreasPost r B v n xs x y a b wx)) :=
      fun wx v n xs x y a b ht ho hl2 hB2 c1 c2 c3 c4 c5 c6 c7 c8 => ihr sr wx B v n xs x y a b (M + 24) ht p4 ho hl2 hB2 c1 c2 c3 c4 c5 c6 c7 c8 (by omega)
    have hcw := box_lt hc
    have HC := Lib.hid hc
    have H1 := Lib.hid h1
    have H2 := Lib.hid h2
    have hM2 : M ≤ 1000000000 := by omega
    show Calls _ _ #[.pointer (some ⟨c, 0, none⟩), _, _, _, _, _] _ _
    clear h h1 h2 ihl ihr hown nl nr hM p3 p4
    cases hr : rows
    · rw [hr] at HC
      clear hr
      have xx := box_cells HC.out
      unfold areaNd at xx
      have x0' := xx 0
      have x1' := xx 1
      have x2' := xx 2
      have x3' := xx 3
      simp at x0' x1' x2' x3'
      clear xx
      go_enter Tryd.func24, Tryd.ntmps24
      go_wp2_with fail
      refine wp_region_still_tail 12 (by kernel_rfl) (by kernel_rfl) ?_
      simp only [List.take_succ_cons, List.take_zero, List.drop_succ_cons, List.drop_zero]
      repeat still_step
      refine wpStill_nil ?_
      change wpList _ _ _ _ _ w.drew
      go_wp2_with fail
      refine (HL.out w.drew v n xs x y size b (TreG.drew H1.out) HOW.out (by omega) hB (by omega) (by omega) (by omega) (by omega) (by omega) (by omega) (by omega) (by omega)).mono ?_
      rintro e W2 ⟨v1, rfl, hown1, hg1, hr1⟩
      have hap : ∀ q ∈ (Sh.nd c sl sr).bs, v.ownBlock ≠ some q := HAP.out
      have HC2 : Hid (W2.heap[c]? = some (.cells (areaNd false size sl.root sr.root) 77 (0, 0))) := (hg1.block c hcw (fun e => hap c (by simp [Sh.bs]) e.symm)).trans HC.out
      have HT2 : Hid (TreI W2 sr r) := TreG.grown (w := w) H2.out ⟨hg1.os, hg1.tape, hg1.output, hg1.size, hg1.block⟩ (fun q hq => hap q (by simp [Sh.bs, hq]))
      have HG1 : Hid (w.grownBy W2 v.ownBlock) := ⟨hg1.os, hg1.tape, hg1.output, hg1.size, hg1.block⟩
      have HR1 : Hid (NewRow w v v1) := hr1
      have HO1 := Lib.hid hown1
      have hz2 : w.heap.size ≤ W2.heap.size := hg1.size
      have xx := box_cells HC2.out
      unfold areaNd at xx
      have y2 := xx 2
      have y4 := xx 4
      simp at y2 y4
      have s1 : IntKind.i64.wrap (x + size) = x + size := by rw [IntKind.wrap_i64]; omega
      have s2 : IntKind.i64.wrap (a - size) = a - size := by rw [IntKind.wrap_i64]; omega
      clear x0' x1' x2' x3' xx hown1 hg1 hr1 hap
      go_wp2_with fail
      refine wp_region_still_tail 19 (by kernel_rfl) (by kernel_rfl) ?_
      simp only [List.take_succ_cons, List.take_zero, List.drop_succ_cons, List.drop_zero]
      repeat still_step
      refine wpStill_nil ?_
      change wpList _ _ _ _ _ W2.drew
      clear s1 s2
      go_wp2_with fail
      refine (HR.out W2.drew v1 (n + l.leaves) (xs ++ areasV (l.areas x y size b)) (x + size) y (a - size) b (TreG.drew HT2.out) HO1.out (by omega) (Nat.le_trans hB hz2) (by omega) (by omega) (by omega) (by omega) (by omega) (by omega) (by omega) (by omega)).mono ?_
      rintro e W3 ⟨v2, rfl, hown2, hg2, hr2⟩
      have HEND : Hid (AreasPost (.node false size l r) B v n xs x y a b w (.returned v2) W3) := by
        refine ⟨v2, rfl, ?_, grown_two HG1.out ⟨hg2.os, hg2.tape, hg2.output, hg2.size, hg2.block⟩ HR1.out, HR1.out.trans hr2 hz2⟩
        rw [Nat.add_assoc, List.append_assoc, ← areasV_append] at hown2
        exact hown2
      clear y2 y4 hown2 hg2 hr2
      go_wp2
      go_ret
      exact HEND.out

    · rw [hr] at HC
      clear hr
      have xx := box_cells HC.out
      unfold areaNd at xx
      have x0' := xx 0
      have x1' := xx 1
      have x2' := xx 2
      have x3' := xx 3
      simp at x0' x1' x2' x3'
      clear xx
      go_enter Tryd.func24, Tryd.ntmps24
      go_wp2_with fail
      refine wp_region_still_tail 12 (by kernel_rfl) (by kernel_rfl) ?_
      simp only [List.take_succ_cons, List.take_zero, List.drop_succ_cons, List.drop_zero]
      repeat still_step
      refine wpStill_nil ?_
      change wpList _ _ _ _ _ w.drew
      go_wp2_with fail
      refine (HL.out w.drew v n xs x y a size (TreG.drew H1.out) HOW.out (by omega) hB (by omega) (by omega) (by omega) (by omega) (by omega) (by omega) (by omega) (by omega)).mono ?_
      rintro e W2 ⟨v1, rfl, hown1, hg1, hr1⟩
      have hap : ∀ q ∈ (Sh.nd c sl sr).bs, v.ownBlock ≠ some q := HAP.out
      have HC2 : Hid (W2.heap[c]? = some (.cells (areaNd true size sl.root sr.root) 77 (0, 0))) := (hg1.block c hcw (fun e => hap c (by simp [Sh.bs]) e.symm)).trans HC.out
      have HT2 : Hid (TreI W2 sr r) := TreG.grown (w := w) H2.out ⟨hg1.os, hg1.tape, hg1.output, hg1.size, hg1.block⟩ (fun q hq => hap q (by simp [Sh.bs, hq]))
      have HG1 : Hid (w.grownBy W2 v.ownBlock) := ⟨hg1.os, hg1.tape, hg1.output, hg1.size, hg1.block⟩
      have HR1 : Hid (NewRow w v v1) := hr1
      have HO1 := Lib.hid hown1
      have hz2 : w.heap.size ≤ W2.heap.size := hg1.size
      have xx := box_cells HC2.out
      unfold areaNd at xx
      have y2 := xx 2
      have y4 := xx 4
      simp at y2 y4
      have s1 : IntKind.i64.wrap (y + size) = y + size := by rw [IntKind.wrap_i64]; omega
      have s2 : IntKind.i64.wrap (b - size) = b - size := by rw [IntKind.wrap_i64]; omega
      clear x0' x1' x2' x3' xx hown1 hg1 hr1 hap
      go_wp2_with fail
      refine wp_region_still_tail 19 (by kernel_rfl) (by kernel_rfl) ?_
      simp only [List.take_succ_cons, List.take_zero, List.drop_succ_cons, List.drop_zero]
      repeat still_step
      refine wpStill_nil ?_
      change wpList _ _ _ _ _ W2.drew
      clear s1 s2
      go_wp2_with fail
      refine (HR.out W2.drew v1 (n + l.leaves) (xs ++ areasV (l.areas x y a size)) x (y + size) a (b - size) (TreG.drew HT2.out) HO1.out (by omega) (Nat.le_trans hB hz2) (by omega) (by omega) (by omega) (by omega) (by omega) (by omega) (by omega) (by omega)).mono ?_
      rintro e W3 ⟨v2, rfl, hown2, hg2, hr2⟩
      have HEND : Hid (AreasPost (.node true size l r) B v n xs x y a b w (.returned v2) W3) := by
        refine ⟨v2, rfl, ?_, grown_two HG1.out ⟨hg2.os, hg2.tape, hg2.output, hg2.size, hg2.block⟩ HR1.out, HR1.out.trans hr2 hz2⟩
        rw [Nat.add_assoc, List.append_assoc, ← areasV_append] at hown2
        exact hown2
      clear y2 y4 hown2 hg2 hr2
      go_wp2
      go_ret
      exact HEND.out

end Go.Proofs.YtaacccooidehlaaDoor
