/-
  Contracts of the given program's down, and of apply at an action that prints. Conditions: the screen stands in memory.
-/
import Derived.Test.YtfpbboldfilhlaaDoorApUpT
namespace Go.Proofs.YtfpbboldfilhlaaDoor
open Go.ChangeShapes Go.WideShapes Go.ChangeAt Go.RowKit
set_option linter.unusedVariables false
set_option linter.unusedSimpArgs false
set_option maxRecDepth 100000
theorem ScrPost.start {ty : TypeId} {B b gC oC capC : Nat} {ao : Option Addr} {cap : Nat} {S : Sc} {cs : List (Int × Int)} {hs : List ByteArray} {w w1 : World} {e : Ending} {w' : World} (hk : Kept b gC ao cap w w1) (h : ScrPost ty B b gC oC capC ao cap S cs hs w1 e w') : ScrPost ty B b gC oC capC ao cap S cs hs w e w' := by
  obtain ⟨he, ao', cap', hs, hk', hn⟩ := h
  exact ⟨he, ao', cap', hs, hk.trans (NewH.refl _ _ _) hk', NewH.trans (NewH.refl ao cap w) hk.size hn⟩
attribute [local irreducible] wpList
set_option maxHeartbeats 2000000 in
theorem down_roll {B p gC oC capC : Nat} {ao : Option Addr} {cap : Nat} {W H x lk tp bt sx sy : Nat} {ti : ByteArray} {cs : List (Int × Int)} {hs : List ByteArray} {w : World} (h : ScrAt 27 B p gC oC capC ao cap ⟨W, H, x, bt, lk, tp, bt, sx, sy, ti⟩ cs hs w) (k0 : Ok W H cs hs) (h1 : tp ≤ bt) (h2 : bt < H) :
    Calls Tryd.prog 50 #[.pointer (some ⟨p, 0, none⟩)] w (ScrPost 27 B p gC oC capC ao cap ⟨W, H, x, bt, lk, tp, bt, sx, sy, ti⟩ (upN W tp bt true 1 cs hs).1 (upN W tp bt true 1 cs hs).2 w) := by
  have HS := Lib.hid h
  have HK := Lib.hid k0
  have x0 : ∀ i, w.cell? ⟨p, i, none⟩ = (#[.int .i64 (W : Int), .int .i64 (H : Int), .int .i64 (x : Int), .int .i64 (bt : Int), .int .i64 (lk : Int), .int .i64 (tp : Int), .int .i64 (bt : Int), .int .i64 (sx : Int), .int .i64 (sy : Int), .string ti, .slice (some ⟨gC, oC, none⟩) cs.length capC, .slice ao hs.length cap] : Array Value)[i]? := h.x
  have k3 := k0.h1
  clear h k0
  go_enter Tryd.func50, Tryd.ntmps50
  go_wp2_with fail
  go_quiet (fail)
  have HS1 := Lib.hid (HS.out.drewN nq)
  have HKP : Hid (Kept p gC ao cap w (w.drewN nq)) := (Kept.refl _ _ _ _ _).drewN nq
  generalize w.drewN nq = w1 at *
  have x1 : ∀ i, w1.drew.cell? ⟨p, i, none⟩ = (#[.int .i64 (W : Int), .int .i64 (H : Int), .int .i64 (x : Int), .int .i64 (bt : Int), .int .i64 (lk : Int), .int .i64 (tp : Int), .int .i64 (bt : Int), .int .i64 (sx : Int), .int .i64 (sy : Int), .string ti, .slice (some ⟨gC, oC, none⟩) cs.length capC, .slice ao hs.length cap] : Array Value)[i]? := HS1.out.drew.x
  go_wp2_with fail
  go_still_tail 9, (by kernel_rfl)
  change wpList _ _ _ _ _ w1.drew
  go_wp2_with fail
  refine (scrollUpT_any tp bt 1 1 HS1.out.drew HK.out h1 h2 (by omega) (by omega)).mono ?_
  rintro e w2 hP
  have hP2 := hP.start HKP.out.drew
  obtain ⟨rfl, hR⟩ := hP2
  have HR := Lib.hid hR
  clear hP hR x0 x1
  go_wp2
  go_end0
  exact ⟨rfl, HR.out⟩
set_option maxHeartbeats 2000000 in
theorem down_step {B p gC oC capC : Nat} {ao : Option Addr} {cap : Nat} {W H x y lk tp bt sx sy : Nat} {ti : ByteArray} {cs : List (Int × Int)} {hs : List ByteArray} {w : World} (h : ScrAt 27 B p gC oC capC ao cap ⟨W, H, x, y, lk, tp, bt, sx, sy, ti⟩ cs hs w) (h1 : y + 1 < H) (hH : H ≤ 10) (hb : y ≠ bt) :
    Calls Tryd.prog 50 #[.pointer (some ⟨p, 0, none⟩)] w (ScrPost 27 B p gC oC capC ao cap ⟨W, H, x, y + 1, lk, tp, bt, sx, sy, ti⟩ cs hs w) := by
  have HS := Lib.hid h
  have x0 : ∀ i, w.cell? ⟨p, i, none⟩ = (#[.int .i64 (W : Int), .int .i64 (H : Int), .int .i64 (x : Int), .int .i64 (y : Int), .int .i64 (lk : Int), .int .i64 (tp : Int), .int .i64 (bt : Int), .int .i64 (sx : Int), .int .i64 (sy : Int), .string ti, .slice (some ⟨gC, oC, none⟩) cs.length capC, .slice ao hs.length cap] : Array Value)[i]? := h.x
  have hb1 : ((y : Int) == (bt : Int)) = false := by rw [beq_eq_false_iff_ne]; omega
  have hb2 : (y == bt) = false := by rw [beq_eq_false_iff_ne]; exact hb
  obtain ⟨y2, e1, e2⟩ : ∃ n : Nat, n ≤ y + 1 ∧ y + 1 ≤ n := ⟨_, Nat.le_refl _, Nat.le_refl _⟩
  have hm : min ((y : Int) + 1) ((H : Int) - 1) = (y2 : Int) := by omega
  clear h
  go_enter Tryd.func50, Tryd.ntmps50
  go_wp2_with fail
  go_quiet (fail)
  have HS1 := Lib.hid (HS.out.drewN nq)
  have HKP : Hid (Kept p gC ao cap w (w.drewN nq)) := (Kept.refl _ _ _ _ _).drewN nq
  generalize w.drewN nq = w1 at *
  have x1 : ∀ i, w1.drew.cell? ⟨p, i, none⟩ = (#[.int .i64 (W : Int), .int .i64 (H : Int), .int .i64 (x : Int), .int .i64 (y : Int), .int .i64 (lk : Int), .int .i64 (tp : Int), .int .i64 (bt : Int), .int .i64 (sx : Int), .int .i64 (sy : Int), .string ti, .slice (some ⟨gC, oC, none⟩) cs.length capC, .slice ao hs.length cap] : Array Value)[i]? := HS1.out.drew.x
  have f1 : ∀ i, w1.drew.frozen? ⟨p, i, none⟩ = false := HS1.out.drew.f
  have HS2 : Hid (ScrAt 27 B p gC oC capC ao cap ⟨W, H, x, y2, lk, tp, bt, sx, sy, ti⟩ cs hs (w1.setCell ⟨p, 3, none⟩ (.int .i64 (y2 : Int)))) := HS1.out.setB 3 _ _ (fun a n c a' n' c' => rfl)
  have HK2 : Hid (Kept p gC ao cap w (w1.setCell ⟨p, 3, none⟩ (.int .i64 (y2 : Int)))) := HKP.out.set 3 (.int .i64 (y2 : Int))
  clear x0
  go_wp2_with fail
  go_still_tail 14, (by kernel_rfl)
  change wpList _ _ _ _ _ w1.drew
  go_wp2
  go_end0
  obtain rfl : y2 = y + 1 := by omega
  rw [hm]
  exact ⟨rfl, ao, cap, HS2.out.drew, HK2.out.drew, NewH.refl _ _ _⟩
set_option maxHeartbeats 4000000 in
/-- a letter that has room in the row -/
theorem print_now (r : Nat) {B p gC oC capC : Nat} {ao : Option Addr} {cap : Nat} {W H x y lk tp bt sx sy : Nat} {ti : ByteArray} {cs : List (Int × Int)} {hs : List ByteArray} {w : World} (h : ScrAt 27 B p gC oC capC ao cap ⟨W, H, x, y, lk, tp, bt, sx, sy, ti⟩ cs hs w) (k0 : Ok W H cs hs) (hxW : x < W) (hyH : y < H) (hr : r ≤ 1114111) (hlk : lk ≤ 127) :
    Calls Tryd.prog 34 #[.pointer (some ⟨p, 0, none⟩), .agg #[.int .i64 1, .int .i64 (r : Int), .bool false, .slice none 0 0, .string ⟨#[]⟩]] w (ScrPost 27 B p gC oC capC ao cap ⟨W, H, x + 1, y, lk, tp, bt, sx, sy, ti⟩ (cs.set (y * W + x) ((r : Int), (lk : Int))) hs w) := by
  have HOK := Lib.hid k0
  have g1 := k0.w1
  have g2 := k0.h1
  have hxb : ((x : Int) == (W : Int)) = false := by rw [beq_eq_false_iff_ne]; omega
  have hxc : (x == W) = false := by rw [beq_eq_false_iff_ne]; omega
  have HS0 := Lib.hid (h.alloc (.cells #[.int .i64 1, .int .i64 (r : Int), .bool false, .slice none 0 0, .string ⟨#[]⟩] 67))
  have HK0 : Hid (Kept p gC ao cap w (w.alloc (.cells #[.int .i64 1, .int .i64 (r : Int), .bool false, .slice none 0 0, .string ⟨#[]⟩] 67))) := (Kept.refl _ _ _ _ _).alloc _
  have HB0 := Lib.hid (box_new w (.cells #[.int .i64 1, .int .i64 (r : Int), .bool false, .slice none 0 0, .string ⟨#[]⟩] 67))
  have x0 : ∀ i, (w.alloc (.cells #[.int .i64 1, .int .i64 (r : Int), .bool false, .slice none 0 0, .string ⟨#[]⟩] 67)).cell? ⟨p, i, none⟩ = (#[.int .i64 (W : Int), .int .i64 (H : Int), .int .i64 (x : Int), .int .i64 (y : Int), .int .i64 (lk : Int), .int .i64 (tp : Int), .int .i64 (bt : Int), .int .i64 (sx : Int), .int .i64 (sy : Int), .string ti, .slice (some ⟨gC, oC, none⟩) cs.length capC, .slice ao hs.length cap] : Array Value)[i]? := HS0.out.x
  have y0 := box_cells HB0.out
  clear h k0
  go_enter Tryd.func34, Tryd.ntmps34
  go_wp2_with fail
  generalize (w.alloc (.cells #[.int .i64 1, .int .i64 (r : Int), .bool false, .slice none 0 0, .string ⟨#[]⟩] 67)) = W0 at *
  generalize w.heap.size = ab at *
  go_quiet (fail)
  have HSA := Lib.hid (HS0.out.drewN nq)
  have HKA := Lib.hid (HK0.out.drewN nq)
  have HBA : Hid ((W0.drewN nq).heap[ab]? = some (.cells #[.int .i64 1, .int .i64 (r : Int), .bool false, .slice none 0 0, .string ⟨#[]⟩] 67 (0, 0))) := HB0.out
  generalize W0.drewN nq = w1 at *
  clear x0 y0 HS0 HK0 HB0
  have hcl : cs.length = W * H := HOK.out.cl
  obtain ⟨py, hpy⟩ : ∃ v, y * W = v := ⟨_, rfl⟩
  have m1 : (y : Int) * (W : Int) = (py : Int) := by rw [← hpy]; simp
  have hrow := HOK.out.row (b := y) hyH
  rw [hpy] at hrow
  obtain ⟨hp4, hp240⟩ := HOK.out.pos
  obtain ⟨ix, hix⟩ : ∃ v, py + x = v := ⟨_, rfl⟩
  have m2 : (py : Int) + (x : Int) = (ix : Int) := by omega
  have m3 : (ix : Int) < (cs.length : Int) := by omega
  have m4 : (0 : Int) ≤ (ix : Int) := by omega
  have v1 : IntKind.i64.wrap (py : Int) = (py : Int) := by rw [IntKind.wrap_i64] <;> omega
  have v2 : IntKind.i64.wrap (ix : Int) = (ix : Int) := by rw [IntKind.wrap_i64] <;> omega
  have xA : ∀ i, w1.drew.cell? ⟨p, i, none⟩ = (#[.int .i64 (W : Int), .int .i64 (H : Int), .int .i64 (x : Int), .int .i64 (y : Int), .int .i64 (lk : Int), .int .i64 (tp : Int), .int .i64 (bt : Int), .int .i64 (sx : Int), .int .i64 (sy : Int), .string ti, .slice (some ⟨gC, oC, none⟩) cs.length capC, .slice ao hs.length cap] : Array Value)[i]? := HSA.out.drew.x
  have xB : ∀ i, w1.drew.cell? ⟨ab, i, none⟩ = (#[.int .i64 1, .int .i64 (r : Int), .bool false, .slice none 0 0, .string ⟨#[]⟩] : Array Value)[i]? := box_cells HBA.out
  obtain ⟨u0, c0, f0⟩ : ∃ u, w1.cell? ⟨gC, oC + ix * 2, none⟩ = some u ∧ w1.frozen? ⟨gC, oC + ix * 2, none⟩ = false := ⟨_, HSA.out.cells (ix * 2) (by rw [length_cellsV]; omega)⟩
  obtain ⟨u1, c1, f1⟩ : ∃ u, w1.cell? ⟨gC, oC + ix * 2 + 1, none⟩ = some u ∧ w1.frozen? ⟨gC, oC + ix * 2 + 1, none⟩ = false := ⟨_, HSA.out.cells (ix * 2 + 1) (by rw [length_cellsV]; omega)⟩
  have hls : (cs.take ix ++ ([((r : Int), (lk : Int))] ++ cs.drop (ix + [((r : Int), (lk : Int))].length))) = cs.set ix ((r : Int), (lk : Int)) := by
    rw [List.set_eq_take_append_cons_drop, if_pos (by omega)]; rfl
  have HS8 := Lib.hid (HSA.out.write ix [((r : Int), (lk : Int))] (by simp; omega))
  rw [hls] at HS8
  have HK8 := Lib.hid (HKA.out.cells (cellsV [((r : Int), (lk : Int))]) (oC + ix * 2))
  have HIX : Hid (y * W + x = ix) := by show _ = _; rw [hpy]; exact hix
  clear hls hpy hix hrow hp4 hcl
  go_wp2_with fail
  go_still_tail 26, (by kernel_rfl)
  change wpList _ _ _ _ _ w1.drew
  have hws : w1.setCells gC (oC + ix * 2) (cellsV [((r : Int), (lk : Int))]) = (w1.setCell ⟨gC, oC + ix * 2, none⟩ (.int .i64 (r : Int))).setCell ⟨gC, oC + ix * 2 + 1, none⟩ (.int .i64 (lk : Int)) := rfl
  rw [hws] at HS8 HK8
  clear hws
  go_upto_region 7 with fail
  generalize (w1.setCell ⟨gC, oC + ix * 2, none⟩ (.int .i64 (r : Int))).setCell ⟨gC, oC + ix * 2 + 1, none⟩ (.int .i64 (lk : Int)) = w8 at *
  have x8 : ∀ i, w8.cell? ⟨p, i, none⟩ = (#[.int .i64 (W : Int), .int .i64 (H : Int), .int .i64 (x : Int), .int .i64 (y : Int), .int .i64 (lk : Int), .int .i64 (tp : Int), .int .i64 (bt : Int), .int .i64 (sx : Int), .int .i64 (sy : Int), .string ti, .slice (some ⟨gC, oC, none⟩) cs.length capC, .slice ao hs.length cap] : Array Value)[i]? := by have h := HS8.out.x; rw [List.length_set] at h; exact h
  have f8 := HS8.out.f
  have HS9 : Hid (ScrAt 27 B p gC oC capC ao cap ⟨W, H, x + 1, y, lk, tp, bt, sx, sy, ti⟩ (cs.set ix ((r : Int), (lk : Int))) hs (w8.setCell ⟨p, 2, none⟩ (.int .i64 ((x : Int) + 1)))) := HS8.out.setB 2 _ _ (fun a n c a' n' c' => by rw [show (x : Int) + 1 = ((x + 1 : Nat) : Int) from by omega]; rfl)
  have HK9 := Lib.hid (HK8.out.set 2 (.int .i64 ((x : Int) + 1)))
  clear xA xB c0 f0 c1 f1 HS8 HK8
  go_wp2
  go_end0
  refine ⟨rfl, ao, cap, ?_, HK9.out.drew, NewH.refl _ _ _⟩
  rw [HIX.out]
  exact HS9.out.drew
set_option maxHeartbeats 4000000 in
/-- a letter that begins a row -/
theorem print_wrap (r y' : Nat) (cs' : List (Int × Int)) (hs' : List ByteArray) {B p gC oC capC : Nat} {ao : Option Addr} {cap : Nat} {W H y lk tp bt sx sy : Nat} {ti : ByteArray} {cs : List (Int × Int)} {hs : List ByteArray} {w : World} (h : ScrAt 27 B p gC oC capC ao cap ⟨W, H, W, y, lk, tp, bt, sx, sy, ti⟩ cs hs w) (k0 : Ok W H cs' hs') (hyH : y' < H) (hW2 : 2 ≤ W) (hW : W ≤ 24) (hr : r ≤ 1114111) (hlk : lk ≤ 127)
    (HD : ∀ w1 : World, ScrAt 27 B p gC oC capC ao cap ⟨W, H, 0, y, lk, tp, bt, sx, sy, ti⟩ cs hs w1 → Calls Tryd.prog 50 #[.pointer (some ⟨p, 0, none⟩)] w1 (ScrPost 27 B p gC oC capC ao cap ⟨W, H, 0, y', lk, tp, bt, sx, sy, ti⟩ cs' hs' w1)) :
    Calls Tryd.prog 34 #[.pointer (some ⟨p, 0, none⟩), .agg #[.int .i64 1, .int .i64 (r : Int), .bool false, .slice none 0 0, .string ⟨#[]⟩]] w (ScrPost 27 B p gC oC capC ao cap ⟨W, H, 0 + 1, y', lk, tp, bt, sx, sy, ti⟩ (cs'.set (y' * W + 0) ((r : Int), (lk : Int))) hs' w) := by
  have HOK := Lib.hid k0
  have g1 := k0.w1
  have g2 := k0.h1
  have HDD := Lib.hid HD
  have hpw := h.lt
  have hgw := h.glt
  have hfw : Hid (∀ k, foot ao cap k → k < w.heap.size) := fun k hk => (h.h.ft hk).2.2.2
  have HS0 := Lib.hid (h.alloc (.cells #[.int .i64 1, .int .i64 (r : Int), .bool false, .slice none 0 0, .string ⟨#[]⟩] 67))
  have HK0 : Hid (Kept p gC ao cap w (w.alloc (.cells #[.int .i64 1, .int .i64 (r : Int), .bool false, .slice none 0 0, .string ⟨#[]⟩] 67))) := (Kept.refl _ _ _ _ _).alloc _
  have HB0 := Lib.hid (box_new w (.cells #[.int .i64 1, .int .i64 (r : Int), .bool false, .slice none 0 0, .string ⟨#[]⟩] 67))
  have hzw : (w.alloc (.cells #[.int .i64 1, .int .i64 (r : Int), .bool false, .slice none 0 0, .string ⟨#[]⟩] 67)).heap.size = w.heap.size + 1 := by simp
  have x0 : ∀ i, (w.alloc (.cells #[.int .i64 1, .int .i64 (r : Int), .bool false, .slice none 0 0, .string ⟨#[]⟩] 67)).cell? ⟨p, i, none⟩ = (#[.int .i64 (W : Int), .int .i64 (H : Int), .int .i64 (W : Int), .int .i64 (y : Int), .int .i64 (lk : Int), .int .i64 (tp : Int), .int .i64 (bt : Int), .int .i64 (sx : Int), .int .i64 (sy : Int), .string ti, .slice (some ⟨gC, oC, none⟩) cs.length capC, .slice ao hs.length cap] : Array Value)[i]? := HS0.out.x
  have y0 := box_cells HB0.out
  clear h k0 HD
  go_enter Tryd.func34, Tryd.ntmps34
  go_wp2_with fail
  generalize (w.alloc (.cells #[.int .i64 1, .int .i64 (r : Int), .bool false, .slice none 0 0, .string ⟨#[]⟩] 67)) = W0 at *
  obtain ⟨ab, hab⟩ : ∃ v, w.heap.size = v := ⟨_, rfl⟩
  rw [hab] at HB0 y0 hzw hpw hgw hfw ⊢
  clear hab
  go_quiet (fail)
  have HS1 := Lib.hid (HS0.out.drewN nq)
  have HK1 := Lib.hid (HK0.out.drewN nq)
  have HB1 : Hid ((W0.drewN nq).heap[ab]? = some (.cells #[.int .i64 1, .int .i64 (r : Int), .bool false, .slice none 0 0, .string ⟨#[]⟩] 67 (0, 0))) := HB0.out
  have hz1 : (W0.drewN nq).heap.size = ab + 1 := hzw
  generalize W0.drewN nq = w1 at *
  clear x0 y0 HS0 HK0 HB0 hzw
  have x1 : ∀ i, w1.cell? ⟨p, i, none⟩ = (#[.int .i64 (W : Int), .int .i64 (H : Int), .int .i64 (W : Int), .int .i64 (y : Int), .int .i64 (lk : Int), .int .i64 (tp : Int), .int .i64 (bt : Int), .int .i64 (sx : Int), .int .i64 (sy : Int), .string ti, .slice (some ⟨gC, oC, none⟩) cs.length capC, .slice ao hs.length cap] : Array Value)[i]? := HS1.out.x
  have f1 := HS1.out.f
  have HS2 : Hid (ScrAt 27 B p gC oC capC ao cap ⟨W, H, 0, y, lk, tp, bt, sx, sy, ti⟩ cs hs (w1.setCell ⟨p, 2, none⟩ (.int .i64 0))) := HS1.out.setB 2 _ _ (fun a n c a' n' c' => rfl)
  have HK2 := Lib.hid (HK1.out.set 2 (.int .i64 0))
  have HB2 : Hid ((w1.setCell ⟨p, 2, none⟩ (.int .i64 0)).heap[ab]? = some (.cells #[.int .i64 1, .int .i64 (r : Int), .bool false, .slice none 0 0, .string ⟨#[]⟩] 67 (0, 0))) := (Below.heap_setCell _ _ _ _ (by dsimp only; omega)).trans HB1.out
  have hz2 : (w1.setCell ⟨p, 2, none⟩ (.int .i64 0)).heap.size = ab + 1 := by rw [← hz1]; simp [World.setCell]
  go_wp2_with fail
  generalize w1.setCell ⟨p, 2, none⟩ (.int .i64 0) = w2 at *
  refine (HDD.out w2 HS2.out).mono ?_
  rintro e w3 ⟨rfl, ao3, cap3, hS3, hK3, hN3⟩
  have HSA := Lib.hid hS3
  have HKA := Lib.hid (HK2.out.trans (NewH.refl _ _ _) hK3)
  have HBA : Hid (w3.heap[ab]? = some (.cells #[.int .i64 1, .int .i64 (r : Int), .bool false, .slice none 0 0, .string ⟨#[]⟩] 67 (0, 0))) := (hK3.block ab (by omega) (by omega) (by omega) (fun hf => by have := hfw.out ab hf; omega)).trans HB2.out
  have HNA : Hid (NewH ao cap w ao3 cap3) := NewH.trans (NewH.refl ao cap w) HK2.out.size hN3
  clear x1 f1 HS1 HK1 HB1 HS2 HK2 HB2 hS3 hK3 hN3 HDD hpw hgw hfw hz1 hz2
  have hcl : cs'.length = W * H := HOK.out.cl
  obtain ⟨py, hpy⟩ : ∃ v, y' * W = v := ⟨_, rfl⟩
  have m1 : (y' : Int) * (W : Int) = (py : Int) := by rw [← hpy]; simp
  have hrow := HOK.out.row (b := y') hyH
  rw [hpy] at hrow
  obtain ⟨hp4, hp240⟩ := HOK.out.pos
  obtain ⟨ix, hix⟩ : ∃ v, py + 0 = v := ⟨_, rfl⟩
  have m2 : (py : Int) = (ix : Int) := by omega
  have m3 : (ix : Int) < (cs'.length : Int) := by omega
  have m4 : (0 : Int) ≤ (ix : Int) := by omega
  have v1 : IntKind.i64.wrap (py : Int) = (py : Int) := by rw [IntKind.wrap_i64] <;> omega
  have v2 : IntKind.i64.wrap (ix : Int) = (ix : Int) := by rw [IntKind.wrap_i64] <;> omega
  have xA : ∀ i, w3.drew.cell? ⟨p, i, none⟩ = (#[.int .i64 (W : Int), .int .i64 (H : Int), .int .i64 (0 : Int), .int .i64 (y' : Int), .int .i64 (lk : Int), .int .i64 (tp : Int), .int .i64 (bt : Int), .int .i64 (sx : Int), .int .i64 (sy : Int), .string ti, .slice (some ⟨gC, oC, none⟩) cs'.length capC, .slice ao3 hs'.length cap3] : Array Value)[i]? := HSA.out.drew.x
  have xB : ∀ i, w3.drew.cell? ⟨ab, i, none⟩ = (#[.int .i64 1, .int .i64 (r : Int), .bool false, .slice none 0 0, .string ⟨#[]⟩] : Array Value)[i]? := box_cells HBA.out
  obtain ⟨u0, c0, f0⟩ : ∃ u, w3.cell? ⟨gC, oC + ix * 2, none⟩ = some u ∧ w3.frozen? ⟨gC, oC + ix * 2, none⟩ = false := ⟨_, HSA.out.cells (ix * 2) (by rw [length_cellsV]; omega)⟩
  obtain ⟨u1, c1, f1⟩ : ∃ u, w3.cell? ⟨gC, oC + ix * 2 + 1, none⟩ = some u ∧ w3.frozen? ⟨gC, oC + ix * 2 + 1, none⟩ = false := ⟨_, HSA.out.cells (ix * 2 + 1) (by rw [length_cellsV]; omega)⟩
  have hls : (cs'.take ix ++ ([((r : Int), (lk : Int))] ++ cs'.drop (ix + [((r : Int), (lk : Int))].length))) = cs'.set ix ((r : Int), (lk : Int)) := by
    rw [List.set_eq_take_append_cons_drop, if_pos (by omega)]; rfl
  have HS8 := Lib.hid (HSA.out.write ix [((r : Int), (lk : Int))] (by simp; omega))
  rw [hls] at HS8
  have HK8 := Lib.hid (HKA.out.cells (cellsV [((r : Int), (lk : Int))]) (oC + ix * 2))
  have HIX : Hid (y' * W + 0 = ix) := by show _ = _; rw [hpy]; exact hix
  clear hls hpy hix hrow hp4 hcl
  go_wp2_with fail
  go_still_tail 26, (by kernel_rfl)
  change wpList _ _ _ _ _ w3.drew
  have hws : w3.setCells gC (oC + ix * 2) (cellsV [((r : Int), (lk : Int))]) = (w3.setCell ⟨gC, oC + ix * 2, none⟩ (.int .i64 (r : Int))).setCell ⟨gC, oC + ix * 2 + 1, none⟩ (.int .i64 (lk : Int)) := rfl
  rw [hws] at HS8 HK8
  clear hws
  go_upto_region 7 with fail
  generalize (w3.setCell ⟨gC, oC + ix * 2, none⟩ (.int .i64 (r : Int))).setCell ⟨gC, oC + ix * 2 + 1, none⟩ (.int .i64 (lk : Int)) = w8 at *
  have x8 : ∀ i, w8.cell? ⟨p, i, none⟩ = (#[.int .i64 (W : Int), .int .i64 (H : Int), .int .i64 (0 : Int), .int .i64 (y' : Int), .int .i64 (lk : Int), .int .i64 (tp : Int), .int .i64 (bt : Int), .int .i64 (sx : Int), .int .i64 (sy : Int), .string ti, .slice (some ⟨gC, oC, none⟩) cs'.length capC, .slice ao3 hs'.length cap3] : Array Value)[i]? := by have h := HS8.out.x; rw [List.length_set] at h; exact h
  have f8 := HS8.out.f
  have HS9 : Hid (ScrAt 27 B p gC oC capC ao3 cap3 ⟨W, H, 0 + 1, y', lk, tp, bt, sx, sy, ti⟩ (cs'.set ix ((r : Int), (lk : Int))) hs' (w8.setCell ⟨p, 2, none⟩ (.int .i64 (1)))) := HS8.out.setB 2 _ _ (fun a n c a' n' c' => rfl)
  have HK9 := Lib.hid (HK8.out.set 2 (.int .i64 (1)))
  clear xA xB c0 f0 c1 f1 HS8 HK8
  go_wp2
  go_end0
  refine ⟨rfl, ao3, cap3, ?_, HK9.out.drew, HNA.out⟩
  rw [HIX.out]
  exact HS9.out.drew
end Go.Proofs.YtfpbboldfilhlaaDoor
