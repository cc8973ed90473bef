/-
  Contracts of commandText of the given program and of l06Bytes of its reference: the encoding of a valid command. Conditions: the command is valid.
-/
import Derived.Test.YtceaanampdcaeaaCmdLawW
import Derived.Test.YtceaanampdcaeaaFields3
import Derived.Deep.RegionHeld3
namespace Go.Proofs.Ytceaanampdcaeaa
open Go.ChangeShapes Go.WideShapes Go.ChangeAt Go.RowKit
set_option linter.unusedVariables false
set_option linter.unusedSimpArgs false

def bitI (b : Bool) : Int := if b then 1 else 0
def cmdNums (k cl sq pn n ep : Int) (rw : Bool) : List Int := [k, cl, sq, pn, n + 1000, ep, bitI rw]
def cmdStrs (k cl sq pn n ep : Int) (rw : Bool) (nm dt : ByteArray) : List ByteArray := [⟨(numsB (cmdNums k cl sq pn n ep rw)).toArray⟩, nm, dt]
def cmdL (k cl sq pn n ep : Int) (rw : Bool) (nm dt : ByteArray) : List UInt8 := fieldsL (cmdStrs k cl sq pn n ep rw nm dt)
structure CmdFits (k cl sq pn n ep : Int) (nm dt : ByteArray) : Prop where
  k0 : 0 ≤ k
  k1 : k ≤ 8
  cl0 : 0 ≤ cl
  cl1 : cl ≤ 200
  sq0 : 0 ≤ sq
  sq1 : sq ≤ 60000
  pn0 : 0 ≤ pn
  pn1 : pn ≤ 1000
  n0 : -100 ≤ n
  n1 : n ≤ 200
  ep0 : 0 ≤ ep
  ep1 : ep ≤ 60000
  nm1 : nm.size ≤ 12
  dt1 : dt.size ≤ 200
theorem noT_size {s : ByteArray} (h : noT s = true) : s.size = 0 := by
  have : emptyB s = true := h
  rwa [emptyB_eq, decide_eq_true_eq] at this
theorem winB_size {s : ByteArray} (h : winB s = true) : s.size ≤ 12 := by
  simp only [winB, Bool.and_eq_true, decide_eq_true_eq] at h
  omega
theorem inR_true {x lo hi : Int} (h : inR x lo hi = true) : lo ≤ x ∧ x ≤ hi := by simpa [inR] using h
theorem cmdB_fits {k cl sq pn n ep : Int} {rw : Bool} {nm dt : ByteArray} (h : cmdB k cl sq pn n ep rw nm dt = true) : CmdFits k cl sq pn n ep nm dt := by
  simp only [cmdB, Bool.and_eq_true] at h
  obtain ⟨⟨h1, h2⟩, h⟩ := h
  have h1 := inR_true h1
  have h2 := inR_true h2
  repeat' split at h
  all_goals first
    | cases h
    | (simp only [Bool.and_eq_true, decide_eq_true_eq, Bool.not_eq_true'] at h)
  all_goals (constructor <;> (have e1 := @inR_true pn 1 1000; have e2 := @inR_true n (-100) 100; have e3 := @inR_true ep 1 60000; have e4 := @inR_true (dt.size : Int) 1 200; have e5 := @inR_true n 0 200; have e6 := @inR_true n 2 24; have e7 := @inR_true ep 2 10; have e8 := @noT_size nm; have e9 := @noT_size dt; have e10 := @winB_size nm; have e11 := @winB_size dt; simp_all; try omega))
theorem cmdNums_ok {k cl sq pn n ep : Int} {rw : Bool} {nm dt : ByteArray} (h : CmdFits k cl sq pn n ep nm dt) : (cmdNums k cl sq pn n ep rw).all okNum = true := by
  obtain ⟨_, _, _, _, _, _, _, _, _, _, _, _, _, _⟩ := h
  cases rw <;> (simp [cmdNums, okNum, bitI]; omega)
theorem cmdNums_len (k cl sq pn n ep : Int) (rw : Bool) : (numsB (cmdNums k cl sq pn n ep rw)).length = 21 := by rw [length_numsB]; rfl
theorem cmdStrs_small {k cl sq pn n ep : Int} {rw : Bool} {nm dt : ByteArray} (h : CmdFits k cl sq pn n ep nm dt) : ∀ s ∈ cmdStrs k cl sq pn n ep rw nm dt, s.size ≤ 200 := by
  intro s hs
  simp only [cmdStrs, List.mem_cons, List.not_mem_nil, or_false] at hs
  rcases hs with rfl | rfl | rfl
  · show (numsB _).toArray.size ≤ _
    rw [List.size_toArray, cmdNums_len]; omega
  · have := h.nm1; omega
  · exact h.dt1
theorem cmdL_len {k cl sq pn n ep : Int} {rw : Bool} {nm dt : ByteArray} (h : CmdFits k cl sq pn n ep nm dt) : (cmdL k cl sq pn n ep rw nm dt).length ≤ 1000 := by
  rw [cmdL, length_fieldsL]
  have h1 := h.nm1
  have h2 := h.dt1
  have h3 := cmdNums_len k cl sq pn n ep rw
  have e : fldB (cmdStrs k cl sq pn n ep rw nm dt) = (bigL 21 2 ++ numsB (cmdNums k cl sq pn n ep rw)) ++ ((bigL nm.size 2 ++ nm.data.toList) ++ (bigL dt.size 2 ++ dt.data.toList)) := by
    simp only [cmdStrs, fldB, List.flatMap_cons, List.flatMap_nil, List.append_nil]
    rw [show (⟨(numsB (cmdNums k cl sq pn n ep rw)).toArray⟩ : ByteArray).size = 21 from by show (numsB _).toArray.size = _; rw [List.size_toArray, h3]]
  rw [e]
  simp only [List.length_append, length_bigL, h3, size_list]
  omega
theorem cmd_fieldsT {k cl sq pn n ep : Int} {rw : Bool} {nm dt : ByteArray} (h : CmdFits k cl sq pn n ep nm dt) : fieldsT (cmdStrs k cl sq pn n ep rw nm dt) = (cmdL k cl sq pn n ep rw nm dt, 0) := by
  have hany : ¬ ((cmdStrs k cl sq pn n ep rw nm dt).any fun s => decide (20000 < s.size)) = true := by
    rw [List.any_eq_true]
    rintro ⟨s, hs, hh⟩
    have := cmdStrs_small h s hs
    simp at hh; omega
  have hl := cmdL_len (rw := rw) h
  rw [cmdL] at hl
  rw [fieldsT, if_neg (by simp [cmdStrs]), if_neg hany, if_neg (by omega)]
  rfl

theorem bit_any (b : Bool) (w : World) : Calls Try.prog 47 #[.bool b] w fun e w' => e = .returned (.int .i64 (bitI b)) ∧ w = w' := by
  cases b
  all_goals
    go_enter Try.func47, Try.ntmps47
    go_wp2
    go_ret
    exact ⟨rfl, rfl⟩
theorem l01Bit_any (b : Bool) (w : World) : Calls Try.prog 44 #[.bool b] w fun e w' => e = .returned (.int .i64 (bitI b)) ∧ w = w' := by
  cases b
  all_goals
    go_enter Try.func44, Try.ntmps44
    go_wp2
    go_ret
    exact ⟨rfl, rfl⟩
theorem fields_val (ao : Option Addr) (n c : Nat) (zs : List ByteArray) (L : List UInt8) (w : World) (ha : At w ao (strs zs)) (hl : zs.length = n) (hn : n ≤ maxLen) (hz : ∀ s ∈ zs, s.size ≤ maxLen) (hF : fieldsT zs = (L, 0)) :
    Calls Try.prog 45 #[.slice ao n c] w fun e w' => e = .returned (.string ⟨L.toArray⟩) ∧ Below w.heap.size w w' := by
  have H := Lib.hid (fieldsOf_any ao n c zs w ha hl hn hz)
  rw [hF] at H
  clear hl hF
  go_enter Try.func45, Try.ntmps45
  go_wp2_with (go_at_call 62; refine H.out.mono ?_; rintro e w1 ⟨rfl, hb1⟩)
  go_ret
  exact ⟨rfl, hb1⟩

set_option maxHeartbeats 2000000 in
theorem commandText_any (k cl sq pn n ep : Int) (rw : Bool) (nm dt : ByteArray) (w : World) (h : CmdFits k cl sq pn n ep nm dt) :
    Calls Try.prog 29 #[.agg #[.int .i64 k, .int .i64 cl, .int .i64 sq, .int .i64 pn, .int .i64 n, .int .i64 ep, .bool rw, .string nm, .string dt]] w fun e w' => e = .returned (.string ⟨(cmdL k cl sq pn n ep rw nm dt).toArray⟩) ∧ Below w.heap.size w w' := by
  have HOK := Lib.hid (cmdNums_ok (rw := rw) h)
  have HST := Lib.hid (cmdStrs_small (rw := rw) h)
  have HFT := Lib.hid (cmd_fieldsT (rw := rw) h)
  have n0 := h.n0
  have n1 := h.n1
  clear h
  obtain ⟨L, hL⟩ : ∃ L, L = cmdL k cl sq pn n ep rw nm dt := ⟨_, rfl⟩
  rw [← hL] at HFT ⊢
  clear hL
  have v1 : IntKind.i64.wrap (n + 1000) = n + 1000 := by rw [IntKind.wrap_i64]; omega
  go_enter Try.func29, Try.ntmps29
  go_wp2
  have hb0 : Below w.heap.size w (w.alloc (.cells #[.int .i64 k, .int .i64 cl, .int .i64 sq, .int .i64 pn, .int .i64 n, .int .i64 ep, .bool rw, .string nm, .string dt] 26)) := (Below.refl _ _).alloc (Nat.le_refl _) _
  have X0 := Lib.hid (box_new w (.cells #[.int .i64 k, .int .i64 cl, .int .i64 sq, .int .i64 pn, .int .i64 n, .int .i64 ep, .bool rw, .string nm, .string dt] 26))
  have x0 := box_cells X0.out
  generalize hW : w.alloc (.cells #[.int .i64 k, .int .i64 cl, .int .i64 sq, .int .i64 pn, .int .i64 n, .int .i64 ep, .bool rw, .string nm, .string dt] 26) = W at *
  have hz0 : w.heap.size + 1 = W.heap.size := by rw [← hW]; simp
  clear hW
  go_region_held3 (fun w' => ∀ i, w'.cell? ⟨w.heap.size, i, none⟩ = (#[.int .i64 k, .int .i64 cl, .int .i64 sq, .int .i64 pn, .int .i64 n, .int .i64 ep, .bool rw, .string nm, .string dt] : Array Value)[i]?) (first | exact x0 | exact x1 | exact x2 | exact cells_alloc x0 (by omega) _ | exact cells_alloc x1 (by omega) _)
    (first
    | (go_at_call 47; refine (bit_any rw _).mono ?_; rintro e w1 ⟨rfl, rfl⟩)
    | (go_at_call 46; refine (numbersOf_any _ 7 7 (cmdNums k cl sq pn n ep rw) _ ?_ rfl (by decide) HOK.out).mono ?_; (first | exact (at_new_drew _ _ _ _) | exact (at_new _ _ _ _)); rintro e w1 ⟨rfl, hb1⟩; have hz1 := hb1.size; simp at hz1; have x1 := cells_below (by assumption) hb1 (by simp; omega); have B1 : Below w.heap.size w w1 := (hb0.alloc (by omega) _).drew.trans (hb1.mono (by simp; omega)))
    | (go_at_call 45; refine (fields_val _ 3 3 (cmdStrs k cl sq pn n ep rw nm dt) L _ ?_ rfl (by unfold maxLen; omega) (fun s hs => Nat.le_trans (HST.out s hs) (by unfold maxLen; omega)) HFT.out).mono ?_; (first | exact (at_new_drew _ _ _ _) | exact (at_new _ _ _ _)); rintro e w2 ⟨rfl, hb2⟩; have hz2 := hb2.size; simp at hz2; have x2 := cells_below (by assumption) hb2 (by simp; omega); have B2 : Below w.heap.size w w2 := (B1.alloc B1.size _).trans (hb2.mono (by simp; omega)))
    | fail)
  go_wp2
  go_ret
  exact ⟨rfl, B2⟩
end Go.Proofs.Ytceaanampdcaeaa
