/-
  Contract of the given program's kill. Conditions: the tree lies so, it is a layout.
-/
import Derived.Test.YtaacccooidehlaaDoorFindP
import Derived.Test.YtaacccooidehlaaDoorFitR
import Derived.LaidEqlPtr
namespace Go.Proofs.YtaacccooidehlaaDoor
open Go.ChangeShapes Go.WideShapes Go.ChangeAt Go.RowKit
set_option linter.unusedVariables false
set_option linter.unusedSimpArgs false
set_option maxRecDepth 100000
theorem Tryd.info_areaT : (Tryd.prog.info? 77).map (fun i => i.size) = some 5 := by kernel_rfl
theorem ptr_same (a : Nat) (w : World) : (binOp .eql 45 (.pointer (some ⟨a, 0, none⟩)) (.pointer (some ⟨a, 0, none⟩))).run Tryd.prog w = .ok (.bool true) w := by
  have h := Tryd.info_areaT
  cases e : Tryd.prog.info? 77 with
  | none => rw [e] at h; cases h
  | some j => exact run_eql_ptr_same w _ Tryd.underlying45 e
theorem ptr_other {a b : Nat} {w : World} {ca cb : Array Value} {ta tb : TypeId} (hne : a ≠ b) (ha : w.heap[a]? = some (.cells ca ta (0, 0))) (hb : w.heap[b]? = some (.cells cb tb (0, 0))) : (binOp .eql 45 (.pointer (some ⟨a, 0, none⟩)) (.pointer (some ⟨b, 0, none⟩))).run Tryd.prog w = .ok (.bool false) w := by
  have h := Tryd.info_areaT
  cases e : Tryd.prog.info? 77 with
  | none => rw [e] at h; cases h
  | some j =>
    rw [e] at h
    simp only [Option.map_some, Option.some.injEq] at h
    exact run_eql_ptr_other w (a := ⟨a, 0, none⟩) (b := ⟨b, 0, none⟩) Tryd.underlying45 e (by omega) (fun e => hne (by injection e)) ha hb
theorem set_five {w : World} {u : Nat} {c0 c1 c2 c3 c4 o0 o1 o2 o3 o4 : Value} {T : TypeId} (h : w.heap[u]? = some (.cells #[c0, c1, c2, c3, c4] T (0, 0))) :
    (((((w.setCell ⟨u, 0, none⟩ o0).setCell ⟨u, 1, none⟩ o1).setCell ⟨u, 2, none⟩ o2).setCell ⟨u, 3, none⟩ o3).setCell ⟨u, 4, none⟩ o4).heap[u]? = some (.cells #[o0, o1, o2, o3, o4] T (0, 0)) :=
  set_heap (set_heap (set_heap (set_heap (set_heap h 0 o0) 1 o1) 2 o2) 3 o3) 4 o4
theorem only_five (w : World) (u : Nat) (o0 o1 o2 o3 o4 : Value) : Only [u] w (((((w.setCell ⟨u, 0, none⟩ o0).setCell ⟨u, 1, none⟩ o1).setCell ⟨u, 2, none⟩ o2).setCell ⟨u, 3, none⟩ o3).setCell ⟨u, 4, none⟩ o4) :=
  (((((Only.refl _ w).set (by simp) 0 _).set (by simp) 1 _).set (by simp) 2 _).set (by simp) 3 _).set (by simp) 4 _
/-- what removing a pane gives -/
def KillO (W H p : Int) (t : Tr) (t' : Tr) (cd : Int) : Prop :=
  (p ∉ t.panes ∧ t' = t ∧ cd = 5) ∨ (p ∈ t.panes ∧ t.leaves = 1 ∧ t' = t ∧ cd = 17) ∨ (p ∈ t.panes ∧ t.leaves ≠ 1 ∧ t' = (t.kill p).fit W H ∧ cd = 0)
def OpPost (t' : Tr) (cd : Int) (s : Sh) (w : World) (e : Ending) (w' : World) : Prop :=
  e = .returned (.int .i64 cd) ∧ (∃ s', TreI w' s' t' ∧ s'.root = s.root) ∧ Only s.bs w w'
theorem leaves_one {t : Tr} {s : Sh} {w : World} {p : Int} {f u : Nat} (h : TreI w s t) (e : s.find t p = some (f, some u)) : t.leaves ≠ 1 := by
  cases t with
  | leaf q =>
    obtain ⟨b, rfl, _⟩ := TreG.leaf h
    simp only [Sh.find] at e
    split at e <;> simp at e
  | node rows size l r => have := l.leaves_pos; have := r.leaves_pos; simp only [Tr.leaves]; omega
set_option maxHeartbeats 4000000 in
theorem kill_any {ps : List PartV} {W H : Int} {t : Tr} (y : Lay ps W H t) (s : Sh) (w : World) (h : TreI w s t) (hn : s.bs.Nodup) (p : Int) (t' : Tr) (cd : Int) (hK : KillO W H p t t' cd) :
    Calls Tryd.prog 25 #[.pointer (some ⟨s.root, 0, none⟩), .int .i64 W, .int .i64 H, .int .i64 p] w (OpPost t' cd s w) := by
  have HF := Lib.hid (find_any t s p w h y.okP)
  have HT := Lib.hid h
  have HY := Lib.hid y
  have HN := Lib.hid hn
  have HKK := Lib.hid hK
  cases e : s.find t p with
  | none =>
    rw [e] at HF
    have hp := (find_none h).1 e
    obtain ⟨rfl, rfl⟩ : t' = t ∧ cd = 5 := by
      rcases hK with ⟨_, h1, h2⟩ | ⟨h1, _⟩ | ⟨h1, _⟩
      · exact ⟨h1, h2⟩
      · exact absurd h1 hp
      · exact absurd h1 hp
    clear e h hn hK HKK hp y
    go_enter Tryd.func25, Tryd.ntmps25
    go_wp2_with fail
    refine HF.out.mono ?_
    rintro e w1 ⟨rfl, n1, rfl⟩
    unfold findV
    go_wp2
    go_ret
    exact ⟨rfl, ⟨s, TreG.drewN n1 HT.out, rfl⟩, (Only.refl _ w).trans ⟨rfl, rfl, rfl, Nat.le_refl _, fun _ _ _ => rfl⟩⟩
  | some x =>
    obtain ⟨f, u⟩ := x
    have hp := find_mem h e
    cases u with
    | none =>
      rw [e] at HF
      obtain ⟨ht, hsl⟩ := find_root h e
      have h1 : t.leaves = 1 := by rw [ht]; rfl
      obtain ⟨rfl, rfl⟩ : t' = t ∧ cd = 17 := by
        rcases hK with ⟨h1, _⟩ | ⟨_, _, h1, h2⟩ | ⟨_, h2, _⟩
        · exact absurd hp h1
        · exact ⟨h1, h2⟩
        · exact absurd h1 h2
      clear e h hn hK HKK hp y ht h1 hsl
      go_enter Tryd.func25, Tryd.ntmps25
      go_wp2_with fail
      refine HF.out.mono ?_
      rintro e w1 ⟨rfl, n1, rfl⟩
      unfold findV ptrO
      go_wp2
      go_ret
      exact ⟨rfl, ⟨s, TreG.drewN n1 HT.out, rfl⟩, (Only.refl _ w).trans ⟨rfl, rfl, rfl, Nat.le_refl _, fun _ _ _ => rfl⟩⟩
    | some u =>
      rw [e] at HF
      have h1 := leaves_one h e
      obtain ⟨rfl, rfl⟩ : t' = (t.kill p).fit W H ∧ cd = 0 := by
        rcases hK with ⟨h1, _⟩ | ⟨_, h2, _⟩ | ⟨_, _, h1, h2⟩
        · exact absurd hp h1
        · exact absurd h2 h1
        · exact ⟨h1, h2⟩
      obtain ⟨m, rows, size, a, b, oc, hu, hf, hab, ho, ⟨o0, o1, o2, o3, o4, rfl⟩, hne, K⟩ := kill_at h hn y.nd e
      obtain ⟨k1, k2, k3, k4⟩ := Tr.kill_facts y.nd hp h1
      have hneed := Tr.fits_need y.ft
      have hlv := y.lv
      have HOK : Hid ((t.kill p).okN) := fun q hq => Tr.fits_okN y.ft q (List.mem_of_mem_erase (by rw [k1] at hq; exact hq))
      have HM := Lib.hid m
      have HU := Lib.hid hu
      have hw1 := y.w2
      have hh1 := y.h2
      have HKF : Hid (∀ (w3 : World), w3.heap[u]? = some (.cells #[.int .i64 o0, .bool o1, .int .i64 o2, .pointer o3, .pointer o4] 77 (0, 0)) → Only [u] w w3 → Calls Tryd.prog 49 #[.pointer (some ⟨s.root, 0, none⟩), .int .i64 W, .int .i64 H] w3 (fun e w4 => e = .returned (.tuple #[]) ∧ (∃ s', TreI w4 s' ((t.kill p).fit W H) ∧ s'.root = s.root) ∧ Only s.bs w w4)) := fun w3 g1 g2 => by
        obtain ⟨s', t1, t2, t3, t4⟩ := K w3 g1 (fun k hk hne => g2.block k (TreG.lt h k hk) (by simpa using hne))
        refine (show Calls Tryd.prog 49 #[.pointer (some ⟨s'.root, 0, none⟩), .int .i64 W, .int .i64 H] w3 _ → Calls Tryd.prog 49 #[.pointer (some ⟨s.root, 0, none⟩), .int .i64 W, .int .i64 H] w3 _ from fun h => by rw [t2] at h; exact h) ?_
        refine (fit_any (t.kill p) s' w3 W H t1 t3 HOK.out (by omega) (by omega) (by omega) (by omega) (by omega)).mono ?_
        rintro e w4 ⟨rfl, f1, f2⟩
        exact ⟨rfl, ⟨s', f1, t2⟩, (g2.mono (fun x hx => by simp at hx; subst hx; exact m)).trans (f2.mono t4)⟩
      have x := box_cells hu
      have fz := box_free hu
      unfold areaNd at x
      have z := box_cells ho
      have hfh := (find_heap h e).1
      have hps : ∀ n, (binOp .eql 45 (.pointer (some ⟨f, 0, none⟩)) (.pointer (some ⟨f, 0, none⟩))).run Tryd.prog (w.drewN n) = .ok (.bool true) (w.drewN n) := fun n => ptr_same f _
      clear e h hn hK HKK hp y h1 K k1 k2 k3 k4 hneed hlv HOK hw1 hh1 hu m
      have HX : Hid ((((((w.setCell ⟨u, 0, none⟩ (.int .i64 o0)).setCell ⟨u, 1, none⟩ (.bool o1)).setCell ⟨u, 2, none⟩ (.int .i64 o2)).setCell ⟨u, 3, none⟩ (.pointer o3)).setCell ⟨u, 4, none⟩ (.pointer o4)).heap[u]? = some (.cells #[.int .i64 o0, .bool o1, .int .i64 o2, .pointer o3, .pointer o4] 77 (0, 0))) := set_five HU.out
      rcases hf with rfl | rfl
      · rw [if_pos rfl] at z hne
        clear hfh
        go_enter Tryd.func25, Tryd.ntmps25
        go_wp2_with fail
        refine HF.out.mono ?_
        rintro e w1 ⟨rfl, n1, rfl⟩
        unfold findV ptrO
        go_wp2_with fail
        refine (HKF.out _ ?_ ?_).mono ?_
        rotate_left 2
        rintro e w4 ⟨rfl, h4, o4⟩
        clear x z fz
        go_wp2
        go_ret
        exact ⟨rfl, h4, o4⟩
        · exact HX.out
        · exact (only_five w u _ _ _ _ _).trans ⟨rfl, rfl, rfl, Nat.le_refl _, fun _ _ _ => rfl⟩
      · rw [if_neg hab] at z hne ho
        have hpo : ∀ n, (binOp .eql 45 (.pointer (some ⟨a, 0, none⟩)) (.pointer (some ⟨f, 0, none⟩))).run Tryd.prog (w.drewN n) = .ok (.bool false) (w.drewN n) := fun n => ptr_other hab ho hfh
        clear hfh hps ho
        go_enter Tryd.func25, Tryd.ntmps25
        go_wp2_with fail
        refine HF.out.mono ?_
        rintro e w1 ⟨rfl, n1, rfl⟩
        unfold findV ptrO
        go_wp2_with fail
        refine (HKF.out _ ?_ ?_).mono ?_
        rotate_left 2
        rintro e w4 ⟨rfl, h4, o4⟩
        clear x z fz
        go_wp2
        go_ret
        exact ⟨rfl, h4, o4⟩
        · exact HX.out
        · exact (only_five w u _ _ _ _ _).trans ⟨rfl, rfl, rfl, Nat.le_refl _, fun _ _ _ => rfl⟩
end Go.Proofs.YtaacccooidehlaaDoor
