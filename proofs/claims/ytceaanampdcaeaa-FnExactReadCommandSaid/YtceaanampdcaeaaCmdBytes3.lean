/-
  Contracts of CommandBytes of the given program and of its reference. Conditions: bounds on the texts' lengths.
-/
import Derived.Test.YtceaanampdcaeaaCmdBytes2
namespace Go.Proofs.Ytceaanampdcaeaa
open Go.ChangeShapes Go.WideShapes Go.ChangeAt Go.RowKit
set_option linter.unusedVariables false

def cmdR (k cl sq pn n ep : Int) (rw : Bool) (nm dt : ByteArray) : List UInt8 × Int := if cmdB k cl sq pn n ep rw nm dt = true then (cmdL k cl sq pn n ep rw nm dt, 0) else ([], 1)
theorem cmdR_le (k cl sq pn n ep : Int) (rw : Bool) (nm dt : ByteArray) : (cmdR k cl sq pn n ep rw nm dt).1.length ≤ 1048576 := by
  unfold cmdR
  split
  · rename_i h; have := cmdL_len (rw := rw) (cmdB_fits h); show (cmdL k cl sq pn n ep rw nm dt).length ≤ _; omega
  · simp
def BytesPost (w : World) (R : List UInt8 × Int) (e : Ending) (w' : World) : Prop :=
  ∃ ao cap, e = .returned (.tuple #[.slice ao R.1.length cap, .int .i64 R.2]) ∧ Mine w.heap.size w' ao (u8s R.1) ∧ Below w.heap.size w w'
theorem bytesPost {w : World} {R : List UInt8 × Int} {e : Ending} {w' : World} (ao : Option Addr) (cap : Nat) (xs : List UInt8) (j : Nat) (c : Int) (hF : R = (xs, c)) (hL : xs.length = j)
    (he : e = .returned (.tuple #[.slice ao j cap, .int .i64 c])) (hm : Mine w.heap.size w' ao (u8s xs)) (hb : Below w.heap.size w w') : BytesPost w R e w' := by
  subst hF hL; exact ⟨ao, cap, he, hm, hb⟩

set_option maxHeartbeats 1000000 in
theorem specCommandBytes_any (k cl sq pn n ep : Int) (rw : Bool) (nm dt : ByteArray) (w : World) (h1 : nm.size ≤ maxLen) (h2 : dt.size ≤ maxLen) :
    Calls Try.prog 11 #[.agg #[.int .i64 k, .int .i64 cl, .int .i64 sq, .int .i64 pn, .int .i64 n, .int .i64 ep, .bool rw, .string nm, .string dt]] w (BytesPost w (cmdR k cl sq pn n ep rw nm dt)) := by
  have hb0 : Below w.heap.size w (w.alloc (.cells #[.int .i64 k, .int .i64 cl, .int .i64 sq, .int .i64 pn, .int .i64 n, .int .i64 ep, .bool rw, .string nm, .string dt] 26)) := (Below.refl _ _).alloc (Nat.le_refl _) _
  have HO := Lib.hid (specCommandOK_any k cl sq pn n ep rw nm dt (w.alloc (.cells #[.int .i64 k, .int .i64 cl, .int .i64 sq, .int .i64 pn, .int .i64 n, .int .i64 ep, .bool rw, .string nm, .string dt] 26)) h1 h2)
  cases hc : cmdB k cl sq pn n ep rw nm dt
  · have H : Hid (cmdR k cl sq pn n ep rw nm dt = ([], 1)) := by show _ = _; rw [cmdR, hc]; rfl
    rw [hc] at HO
    clear hc
    go_enter Try.func11, Try.ntmps11
    go_wp2_with fail
    refine HO.out.mono ?_
    rintro e w1 ⟨rfl, hb1⟩
    have B1 : Below w.heap.size w w1 := hb0.trans (hb1.mono (by simp))
    go_wp2
    go_ret2
    exact bytesPost _ _ [] 0 1 H.out rfl rfl (.inl rfl) (B1.alloc B1.size _)
  · have HF := Lib.hid (cmdB_fits hc)
    have H : Hid (cmdR k cl sq pn n ep rw nm dt = (cmdL k cl sq pn n ep rw nm dt, 0)) := by show _ = _; rw [cmdR, if_pos hc]
    rw [hc] at HO
    have HT := Lib.hid (fun w => l06Bytes_any k cl sq pn n ep rw nm dt w (cmdB_fits hc))
    clear hc
    generalize cmdL k cl sq pn n ep rw nm dt = L at *
    go_enter Try.func11, Try.ntmps11
    go_wp2_with fail
    refine HO.out.mono ?_
    rintro e w1 ⟨rfl, hb1⟩
    have hz1 : w.heap.size + 1 ≤ w1.heap.size := by have := hb1.size; simpa using this
    have B1 : Below w.heap.size w w1 := hb0.trans (hb1.mono (by simp))
    have X1 := Lib.hid (box_below (box_new w (.cells #[.int .i64 k, .int .i64 cl, .int .i64 sq, .int .i64 pn, .int .i64 n, .int .i64 ep, .bool rw, .string nm, .string dt] 26)) hb1 (by simp))
    have x1 := box_cells X1.out
    go_wp2_with fail
    refine (HT.out w1).mono ?_
    rintro e w2 ⟨rfl, hb2⟩
    have hz2 := hb2.size
    have B2 : Below w.heap.size w w2 := B1.trans (hb2.mono (by omega))
    obtain ⟨cp, ob, hcv, hat⟩ := bytes_conv (P := Try.prog) 9 29 5 (⟨L.toArray⟩ : ByteArray) L.length (by show L.toArray.size = _; simp) Try.underlying9 Try.underlying29 Try.underlying5
    clear x1
    go_wp2
    go_ret2
    exact bytesPost _ _ L _ 0 H.out rfl rfl (hat.out w2 _ B2.size) (B2.drew.alloc (by exact B2.size) _)

set_option maxHeartbeats 1000000 in
theorem implCommandBytes_any (k cl sq pn n ep : Int) (rw : Bool) (nm dt : ByteArray) (w : World) (h1 : nm.size ≤ maxLen) (h2 : dt.size ≤ maxLen) :
    Calls Try.prog 12 #[.agg #[.int .i64 k, .int .i64 cl, .int .i64 sq, .int .i64 pn, .int .i64 n, .int .i64 ep, .bool rw, .string nm, .string dt]] w (BytesPost w (cmdR k cl sq pn n ep rw nm dt)) := by
  have hb0 : Below w.heap.size w (w.alloc (.cells #[.int .i64 k, .int .i64 cl, .int .i64 sq, .int .i64 pn, .int .i64 n, .int .i64 ep, .bool rw, .string nm, .string dt] 26)) := (Below.refl _ _).alloc (Nat.le_refl _) _
  have HO := Lib.hid (isCommand_any k cl sq pn n ep rw nm dt (w.alloc (.cells #[.int .i64 k, .int .i64 cl, .int .i64 sq, .int .i64 pn, .int .i64 n, .int .i64 ep, .bool rw, .string nm, .string dt] 26)) h1 h2)
  cases hc : cmdB k cl sq pn n ep rw nm dt
  · have H : Hid (cmdR k cl sq pn n ep rw nm dt = ([], 1)) := by show _ = _; rw [cmdR, hc]; rfl
    rw [hc] at HO
    clear hc
    go_enter Try.func12, Try.ntmps12
    go_wp2_with fail
    refine HO.out.mono ?_
    rintro e w1 ⟨rfl, hb1⟩
    have B1 : Below w.heap.size w w1 := hb0.trans (hb1.mono (by simp))
    go_wp2
    go_ret2
    exact bytesPost _ _ [] 0 1 H.out rfl rfl (.inl rfl) B1
  · have HF := Lib.hid (cmdB_fits hc)
    have H : Hid (cmdR k cl sq pn n ep rw nm dt = (cmdL k cl sq pn n ep rw nm dt, 0)) := by show _ = _; rw [cmdR, if_pos hc]
    rw [hc] at HO
    have HT := Lib.hid (fun w => commandText_any k cl sq pn n ep rw nm dt w (cmdB_fits hc))
    clear hc
    generalize cmdL k cl sq pn n ep rw nm dt = L at *
    go_enter Try.func12, Try.ntmps12
    go_wp2_with fail
    refine HO.out.mono ?_
    rintro e w1 ⟨rfl, hb1⟩
    have hz1 : w.heap.size + 1 ≤ w1.heap.size := by have := hb1.size; simpa using this
    have B1 : Below w.heap.size w w1 := hb0.trans (hb1.mono (by simp))
    have X1 := Lib.hid (box_below (box_new w (.cells #[.int .i64 k, .int .i64 cl, .int .i64 sq, .int .i64 pn, .int .i64 n, .int .i64 ep, .bool rw, .string nm, .string dt] 26)) hb1 (by simp))
    have x1 := box_cells X1.out
    go_wp2_with fail
    refine (HT.out w1).mono ?_
    rintro e w2 ⟨rfl, hb2⟩
    have hz2 := hb2.size
    have B2 : Below w.heap.size w w2 := B1.trans (hb2.mono (by omega))
    obtain ⟨cp, ob, hcv, hat⟩ := bytes_conv (P := Try.prog) 9 29 5 (⟨L.toArray⟩ : ByteArray) L.length (by show L.toArray.size = _; simp) Try.underlying9 Try.underlying29 Try.underlying5
    clear x1
    go_wp2
    go_ret2
    exact bytesPost _ _ L _ 0 H.out rfl rfl (hat.out w2 _ B2.size) (B2.drew.alloc (by exact B2.size) _)
end Go.Proofs.Ytceaanampdcaeaa
