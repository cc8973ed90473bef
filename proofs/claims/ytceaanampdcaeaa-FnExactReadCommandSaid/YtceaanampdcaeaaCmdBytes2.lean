/-
  Contracts of l06Bytes of the reference, and of CommandBytes of the given program and of its reference. Conditions: bounds on the texts' lengths.
-/
import Derived.Test.YtceaanampdcaeaaCmdBytes
import Derived.Deep.RegionHeld
namespace Go.Proofs.Ytceaanampdcaeaa
open Go.ChangeShapes Go.WideShapes Go.ChangeAt Go.RowKit
set_option linter.unusedVariables false

set_option maxHeartbeats 2000000 in
theorem l06Bytes_any (k cl sq pn n ep : Int) (rw : Bool) (nm dt : ByteArray) (w : World) (h : CmdFits k cl sq pn n ep nm dt) :
    Calls Try.prog 28 #[.agg #[.int .i64 k, .int .i64 cl, .int .i64 sq, .int .i64 pn, .int .i64 n, .int .i64 ep, .bool rw, .string nm, .string dt]] w fun e w' => e = .returned (.string ⟨(cmdL k cl sq pn n ep rw nm dt).toArray⟩) ∧ Below w.heap.size w w' := by
  have HOK := Lib.hid (cmdNums_ok (rw := rw) h)
  have HST := Lib.hid (cmdStrs_small (rw := rw) h)
  have HLN := Lib.hid (cmdNums_len k cl sq pn n ep rw)
  have n0 := h.n0
  have n1 := h.n1
  clear h
  obtain ⟨L, hL⟩ : ∃ L, fieldsL (cmdStrs k cl sq pn n ep rw nm dt) = L := ⟨_, rfl⟩
  rw [show cmdL k cl sq pn n ep rw nm dt = L from hL]
  have HL := Lib.hid hL
  clear hL
  have v1 : IntKind.i64.wrap (n + 1000) = n + 1000 := by rw [IntKind.wrap_i64]; omega
  go_enter Try.func28, Try.ntmps28
  go_wp2
  have hb0 : Below w.heap.size w (w.alloc (.cells #[.int .i64 k, .int .i64 cl, .int .i64 sq, .int .i64 pn, .int .i64 n, .int .i64 ep, .bool rw, .string nm, .string dt] 26)) := (Below.refl _ _).alloc (Nat.le_refl _) _
  have X0 := Lib.hid (box_new w (.cells #[.int .i64 k, .int .i64 cl, .int .i64 sq, .int .i64 pn, .int .i64 n, .int .i64 ep, .bool rw, .string nm, .string dt] 26))
  have x0 := box_cells X0.out
  generalize hW : w.alloc (.cells #[.int .i64 k, .int .i64 cl, .int .i64 sq, .int .i64 pn, .int .i64 n, .int .i64 ep, .bool rw, .string nm, .string dt] 26) = W at *
  have hz0 : w.heap.size + 1 = W.heap.size := by rw [← hW]; simp
  clear hW
  go_region_held (fun w' => ∀ i, w'.cell? ⟨w.heap.size, i, none⟩ = (#[.int .i64 k, .int .i64 cl, .int .i64 sq, .int .i64 pn, .int .i64 n, .int .i64 ep, .bool rw, .string nm, .string dt] : Array Value)[i]?) (first | exact x0 | exact x1 | exact x2 | exact cells_alloc x0 (by omega) _ | exact cells_alloc x1 (by omega) _)
    (first
    | (go_at_call 44; refine (l01Bit_any rw _).mono ?_; rintro e w1 ⟨rfl, rfl⟩)
    | (go_at_call 43; refine (l02Numbers_any _ 7 7 (cmdNums k cl sq pn n ep rw) _ ?_ rfl (by decide) HOK.out).mono ?_; (first | exact (at_new_drew _ _ _ _) | exact (at_new _ _ _ _)); rintro e w1 ⟨g1, c1, rfl, hown1, hb1⟩; have hz1 := hb1.size; simp at hz1; have x1 := cells_below (by assumption) hb1 (by simp; omega); have B1 : Below w.heap.size w w1 := (hb0.alloc (by omega) _).drew.trans (hb1.mono (by simp; omega)); have cv1 := conv_at (P := Try.prog) 29 9 5 (3 * 7) c1 Try.underlying29 Try.underlying5 Try.underlying9 (own_at hown1).at HLN.out; clear hown1)
    | (go_at_call 42; refine (l02Fields_any _ 3 3 (cmdStrs k cl sq pn n ep rw nm dt) _ ?_ rfl (by decide) (fun s hs => Nat.le_trans (HST.out s hs) (by decide))).mono ?_; (first | exact (at_new_drew _ _ _ _) | exact (at_new _ _ _ _)); rintro e w2 ⟨g2, m2, c2, rfl, hm2, hmi2, hb2⟩; rw [HL.out] at hm2 hmi2; have hz2 := hb2.size; simp at hz2; have x2 := cells_below (by assumption) hb2 (by simp; omega); have B2 : Below w.heap.size w w2 := (B1.alloc B1.size _).trans (hb2.mono (by simp; omega)); have cv2 := conv_at (P := Try.prog) 29 9 5 m2 c2 Try.underlying29 Try.underlying5 Try.underlying9 hmi2.at hm2.symm; clear hm2 hmi2)
    | fail)
  go_wp2
  go_ret
  exact ⟨rfl, B2⟩
end Go.Proofs.Ytceaanampdcaeaa
