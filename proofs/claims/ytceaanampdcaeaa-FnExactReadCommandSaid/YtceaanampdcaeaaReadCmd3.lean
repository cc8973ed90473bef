/-
  Contracts of ReadCommand of the given program and of its reference, and of eqCommand of the laws; the walk of the law FnExactReadCommand. Conditions: bounds.
-/
import Derived.Test.YtceaanampdcaeaaReadCmd2
import Derived.Test.YtceaanampdcaeaaSlices
namespace Go.Proofs.Ytceaanampdcaeaa
open Go.ChangeShapes Go.WideShapes Go.ChangeAt Go.RowKit
set_option linter.unusedVariables false
set_option linter.unusedSimpArgs false

def cmdCode (o : Option CmdD) : CmdD × Int := match o with | none => (CmdD.zero, 3) | some c => (c, 0)
def readCmdR (l : List UInt8) : CmdD × Int := if 65536 < l.length then (CmdD.zero, 2) else cmdCode (rdC ⟨l.toArray⟩)
def CmdPost (w : World) (R : CmdD × Int) (e : Ending) (w' : World) : Prop := e = .returned (.tuple #[.agg R.1.arr, .int .i64 R.2]) ∧ Below w.heap.size w w'
theorem cmdPost {w : World} {R : CmdD × Int} {e : Ending} {w' : World} (c : CmdD) (k : Int) (hR : R = (c, k)) (he : e = .returned (.tuple #[.agg c.arr, .int .i64 k])) (hB : Below w.heap.size w w') : CmdPost w R e w' := by
  subst hR; exact ⟨he, hB⟩
theorem ReadPost.open {w : World} {o : Option CmdD} {e : Ending} {w' : World} (h : ReadPost w o e w') : ∃ (k cl sq pn n ep : Int) (rw : Bool) (nm dt : ByteArray), e = .returned (.tuple #[.agg #[.int .i64 k, .int .i64 cl, .int .i64 sq, .int .i64 pn, .int .i64 n, .int .i64 ep, .bool rw, .string nm, .string dt], .bool o.isSome]) ∧ (∀ d, o = some d → CmdD.mk k cl sq pn n ep rw nm dt = d) ∧ Below w.heap.size w w' := by
  obtain ⟨⟨k, cl, sq, pn, n, ep, rw, nm, dt⟩, he, hd, hb⟩ := h
  exact ⟨k, cl, sq, pn, n, ep, rw, nm, dt, he, hd, hb⟩

theorem eqCommand_same (k cl sq pn n ep : Int) (rw : Bool) (nm dt : ByteArray) (w : World) :
    Calls Try.prog 19 #[.agg #[.int .i64 k, .int .i64 cl, .int .i64 sq, .int .i64 pn, .int .i64 n, .int .i64 ep, .bool rw, .string nm, .string dt], .agg #[.int .i64 k, .int .i64 cl, .int .i64 sq, .int .i64 pn, .int .i64 n, .int .i64 ep, .bool rw, .string nm, .string dt]] w fun e w' => e = .returned (.bool true) ∧ Below w.heap.size w w' := by
  go_enter Try.func19, Try.ntmps19
  go_wp2
  go_ret
  exact ⟨rfl, ((Below.refl _ _).alloc (Nat.le_refl _) _).alloc (by simp) _⟩

set_option maxHeartbeats 1000000 in
set_option maxRecDepth 100000 in
theorem specReadCommand_any (ao : Option Addr) (n0 c0 : Nat) (l : List UInt8) (w : World) (ha : At w ao (u8s l)) (hl : l.length = n0) (hn : n0 ≤ 16777216) :
    Calls Try.prog 16 #[.slice ao n0 c0] w (CmdPost w (readCmdR l)) := by
  have hbw : Below w.heap.size w (w.alloc (.cells #[.int .i64 0, .int .i64 0, .int .i64 0, .int .i64 0, .int .i64 0, .int .i64 0, .bool false, .string ⟨#[]⟩, .string ⟨#[]⟩] 26)) := (Below.refl _ _).alloc (Nat.le_refl _) _
  have hcv := conv_at (P := Try.prog) 29 9 5 n0 c0 Try.underlying29 Try.underlying5 Try.underlying9 (ha.below hbw (Nat.le_refl _)) hl
  have hsz : (⟨l.toArray⟩ : ByteArray).size = n0 := by rw [← hl]; rfl
  by_cases h1 : 65536 < n0
  · have H : Hid (readCmdR l = (CmdD.zero, 2)) := by show _ = _; rw [readCmdR, hl, if_pos h1]
    clear hl hcv hsz
    go_enter Try.func16, Try.ntmps16
    go_wp2
    exact bodyPost_ret (v := .tuple #[.agg CmdD.zero.arr, .int .i64 2]) (by simp [results, Try.results16, CmdD.arr, CmdD.zero, go_sem]) rfl (cmdPost CmdD.zero 2 H.out rfl hbw)
  have h1' : n0 ≤ 65536 := by omega
  have HR := Lib.hid (l06Read_any ⟨l.toArray⟩ (w.alloc (.cells #[.int .i64 0, .int .i64 0, .int .i64 0, .int .i64 0, .int .i64 0, .int .i64 0, .bool false, .string ⟨#[]⟩, .string ⟨#[]⟩] 26)) (by rw [hsz]; exact h1'))
  obtain ⟨o, ho⟩ : ∃ o, rdC ⟨l.toArray⟩ = o := ⟨_, rfl⟩
  have H0 : readCmdR l = cmdCode o := by rw [readCmdR, hl, if_neg h1, ho]
  rw [ho] at HR
  clear hl hsz h1 ho
  cases o with
  | none =>
    have H : Hid (readCmdR l = (CmdD.zero, 3)) := H0
    clear H0
    go_enter Try.func16, Try.ntmps16
    go_wp2_with fail
    refine HR.out.mono ?_
    intro e w1 hp
    obtain ⟨k, cl, sq, pn, n, ep, rw, nm, dt, rfl, _, hb1⟩ := hp.open
    have hz1 : w.heap.size + 1 ≤ w1.heap.size := by have := hb1.size; simp at this; omega
    have B1 : Below w.heap.size w w1 := hbw.trans (hb1.mono (by simp))
    have X1 : Hid (w1.heap[w.heap.size]? = some (.cells #[.int .i64 0, .int .i64 0, .int .i64 0, .int .i64 0, .int .i64 0, .int .i64 0, .bool false, .string ⟨#[]⟩, .string ⟨#[]⟩] 26)) := box_below (box_new w _) hb1 (by simp)
    have x1 := box_cells X1.out
    have f1 := box_free X1.out
    have hlt1 : w.heap.size < w1.heap.size := by omega
    have hne1 : w.heap.size ≠ w1.heap.size := by omega
    have hne2 : ¬ w1.heap.size = w.heap.size := by omega
    clear hcv
    go_wp2
    exact bodyPost_ret (v := .tuple #[.agg CmdD.zero.arr, .int .i64 3]) (by simp [results, Try.results16, CmdD.arr, CmdD.zero, x1, hlt1, hne1, hne2, go_sem]) rfl (cmdPost CmdD.zero 3 H.out rfl ((set9 B1 (Nat.le_refl _) _ _ _ _ _ _ _ _ _).alloc (by simp; omega) _))
  | some c =>
    have H : Hid (readCmdR l = (c, 0)) := H0
    clear H0
    go_enter Try.func16, Try.ntmps16
    go_wp2_with fail
    refine HR.out.mono ?_
    intro e w1 hp
    obtain ⟨k, cl, sq, pn, n, ep, rw, nm, dt, rfl, hd2, hb1⟩ := hp.open
    have HD : Hid (CmdD.mk k cl sq pn n ep rw nm dt = c) := hd2 c rfl
    have hz1 : w.heap.size + 1 ≤ w1.heap.size := by have := hb1.size; simp at this; omega
    have B1 : Below w.heap.size w w1 := hbw.trans (hb1.mono (by simp))
    have X1 : Hid (w1.heap[w.heap.size]? = some (.cells #[.int .i64 0, .int .i64 0, .int .i64 0, .int .i64 0, .int .i64 0, .int .i64 0, .bool false, .string ⟨#[]⟩, .string ⟨#[]⟩] 26)) := box_below (box_new w _) hb1 (by simp)
    have x1 := box_cells X1.out
    have f1 := box_free X1.out
    have hlt1 : w.heap.size < w1.heap.size := by omega
    have hne1 : w.heap.size ≠ w1.heap.size := by omega
    have hne2 : ¬ w1.heap.size = w.heap.size := by omega
    clear hcv hd2
    go_wp2
    exact bodyPost_ret (v := .tuple #[.agg (CmdD.mk k cl sq pn n ep rw nm dt).arr, .int .i64 0]) (by simp [results, Try.results16, CmdD.arr, CmdD.zero, x1, hlt1, hne1, hne2, go_sem]) rfl (cmdPost _ 0 (by rw [H.out, HD.out]) rfl ((set9 B1 (Nat.le_refl _) _ _ _ _ _ _ _ _ _).alloc (by simp; omega) _))

set_option maxHeartbeats 1000000 in
set_option maxRecDepth 100000 in
theorem implReadCommand_any (ao : Option Addr) (n0 c0 : Nat) (l : List UInt8) (w : World) (ha : At w ao (u8s l)) (hl : l.length = n0) (hn : n0 ≤ 16777216) :
    Calls Try.prog 18 #[.slice ao n0 c0] w (CmdPost w (readCmdR l)) := by
  have hbw : Below w.heap.size w ((w.alloc (.cells #[.int .i64 0, .int .i64 0, .int .i64 0, .int .i64 0, .int .i64 0, .int .i64 0, .bool false, .string ⟨#[]⟩, .string ⟨#[]⟩] 26)).alloc (.cells #[.int .i64 n0] 3)) := ((Below.refl _ _).alloc (Nat.le_refl _) _).alloc (by simp) _
  have hcv := conv_at (P := Try.prog) 29 9 5 n0 c0 Try.underlying29 Try.underlying5 Try.underlying9 (ha.below hbw (Nat.le_refl _)) hl
  have hsz : (⟨l.toArray⟩ : ByteArray).size = n0 := by rw [← hl]; rfl
  have HI := Lib.hid (isLong_any (some ⟨w.heap.size + 1, 0, none⟩) 1 1 [(n0 : Int)] ((w.alloc (.cells #[.int .i64 0, .int .i64 0, .int .i64 0, .int .i64 0, .int .i64 0, .int .i64 0, .bool false, .string ⟨#[]⟩, .string ⟨#[]⟩] 26)).alloc (.cells #[.int .i64 n0] 3)) (by rw [show w.heap.size + 1 = (w.alloc (.cells #[.int .i64 0, .int .i64 0, .int .i64 0, .int .i64 0, .int .i64 0, .int .i64 0, .bool false, .string ⟨#[]⟩, .string ⟨#[]⟩] 26)).heap.size from by simp]; exact at_new _ _ _ _) rfl (by decide))
  by_cases h1 : 65536 < n0
  · have H : Hid (readCmdR l = (CmdD.zero, 2)) := by show _ = _; rw [readCmdR, hl, if_pos h1]
    have hd : ([(n0 : Int)].any fun x => decide (65536 < x)) = true := by simp; omega
    clear hl hcv hsz
    go_enter Try.func18, Try.ntmps18
    go_wp2_with (go_at_call 31; refine HI.out.mono ?_; rw [hd]; rintro e w' ⟨rfl, rfl⟩)
    exact bodyPost_ret (v := .tuple #[.agg CmdD.zero.arr, .int .i64 2]) (by simp [results, Try.results18, CmdD.arr, CmdD.zero, go_sem]) rfl (cmdPost CmdD.zero 2 H.out rfl hbw)
  have h1' : n0 ≤ 65536 := by omega
  have hd : ([(n0 : Int)].any fun x => decide (65536 < x)) = false := by simp; omega
  have HR := Lib.hid (readCommand_any ⟨l.toArray⟩ ((w.alloc (.cells #[.int .i64 0, .int .i64 0, .int .i64 0, .int .i64 0, .int .i64 0, .int .i64 0, .bool false, .string ⟨#[]⟩, .string ⟨#[]⟩] 26)).alloc (.cells #[.int .i64 n0] 3)) (by rw [hsz]; exact h1'))
  obtain ⟨o, ho⟩ : ∃ o, rdC ⟨l.toArray⟩ = o := ⟨_, rfl⟩
  have H0 : readCmdR l = cmdCode o := by rw [readCmdR, hl, if_neg h1, ho]
  rw [ho] at HR
  clear hl hsz h1 ho
  cases o with
  | none =>
    have H : Hid (readCmdR l = (CmdD.zero, 3)) := H0
    clear H0
    go_enter Try.func18, Try.ntmps18
    go_wp2_with (go_at_call 31; refine HI.out.mono ?_; rw [hd]; rintro e w' ⟨rfl, rfl⟩)
    refine HR.out.mono ?_
    intro e w1 hp
    obtain ⟨k, cl, sq, pn, n, ep, rw, nm, dt, rfl, _, hb1⟩ := hp.open
    have hz1 : w.heap.size + 1 ≤ w1.heap.size := by have := hb1.size; simp at this; omega
    have B1 : Below w.heap.size w w1 := hbw.trans (hb1.mono (by simp; omega))
    have X1 : Hid (w1.heap[w.heap.size]? = some (.cells #[.int .i64 0, .int .i64 0, .int .i64 0, .int .i64 0, .int .i64 0, .int .i64 0, .bool false, .string ⟨#[]⟩, .string ⟨#[]⟩] 26)) := box_below ((Below.heap_alloc _ _ w.heap.size (by simp)).trans (box_new w _)) hb1 (by simp; omega)
    have x1 := box_cells X1.out
    have f1 := box_free X1.out
    have hlt1 : w.heap.size < w1.heap.size := by omega
    have hne1 : w.heap.size ≠ w1.heap.size := by omega
    have hne2 : ¬ w1.heap.size = w.heap.size := by omega
    clear hcv
    go_wp2
    exact bodyPost_ret (v := .tuple #[.agg CmdD.zero.arr, .int .i64 3]) (by simp [results, Try.results18, CmdD.arr, CmdD.zero, x1, hlt1, hne1, hne2, go_sem]) rfl (cmdPost CmdD.zero 3 H.out rfl ((set9 B1 (Nat.le_refl _) _ _ _ _ _ _ _ _ _).alloc (by simp; omega) _))
  | some c =>
    have H : Hid (readCmdR l = (c, 0)) := H0
    clear H0
    go_enter Try.func18, Try.ntmps18
    go_wp2_with (go_at_call 31; refine HI.out.mono ?_; rw [hd]; rintro e w' ⟨rfl, rfl⟩)
    refine HR.out.mono ?_
    intro e w1 hp
    obtain ⟨k, cl, sq, pn, n, ep, rw, nm, dt, rfl, hd2, hb1⟩ := hp.open
    have HD : Hid (CmdD.mk k cl sq pn n ep rw nm dt = c) := hd2 c rfl
    have hz1 : w.heap.size + 1 ≤ w1.heap.size := by have := hb1.size; simp at this; omega
    have B1 : Below w.heap.size w w1 := hbw.trans (hb1.mono (by simp; omega))
    have X1 : Hid (w1.heap[w.heap.size]? = some (.cells #[.int .i64 0, .int .i64 0, .int .i64 0, .int .i64 0, .int .i64 0, .int .i64 0, .bool false, .string ⟨#[]⟩, .string ⟨#[]⟩] 26)) := box_below ((Below.heap_alloc _ _ w.heap.size (by simp)).trans (box_new w _)) hb1 (by simp; omega)
    have x1 := box_cells X1.out
    have f1 := box_free X1.out
    have hlt1 : w.heap.size < w1.heap.size := by omega
    have hne1 : w.heap.size ≠ w1.heap.size := by omega
    have hne2 : ¬ w1.heap.size = w.heap.size := by omega
    clear hcv hd2
    go_wp2
    exact bodyPost_ret (v := .tuple #[.agg (CmdD.mk k cl sq pn n ep rw nm dt).arr, .int .i64 0]) (by simp [results, Try.results18, CmdD.arr, CmdD.zero, x1, hlt1, hne1, hne2, go_sem]) rfl (cmdPost _ 0 (by rw [H.out, HD.out]) rfl ((set9 B1 (Nat.le_refl _) _ _ _ _ _ _ _ _ _).alloc (by simp; omega) _))

end Go.Proofs.Ytceaanampdcaeaa
