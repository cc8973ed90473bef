/-
  The statement 'FnExactResizeScreenSaid' of the given program: the law returns true, and its arguments read behind the call as before it. No condition.
-/
import Derived.Test.YtfdodbkopbmjeaaRzW
import Derived.ShutString
import Derived.SliceStrings
import Derived.Carry
import Derived.Test.YtfdodbkopbmjeaaAgg
import Derived.Test.YtfdodbkopbmjeaaAggCell
namespace Go.Proofs.Ytfdodbkopbmjeaa.fnExactResizeScreen
open Go.ChangeShapes Go.WideShapes Go.ChangeAt Go.RowKit
open Go.ChangeMaps (open_string shut_string)
set_option linter.unusedVariables false

theorem own : ownKnob Try.prog.godebug = none := by kernel_rfl
theorem laidOut : laidOutB Try.prog = true := by kernel_rfl

set_option maxRecDepth 100000 in
theorem lifted (os : Os) (started : os.Started) (H : Type) (enc : TypeId × Value → H) :
    ReturnsInHanded {} Try.checked os 3 .any (Rows.fnExactResizeScreenSpec.pre6 enc Try.prog Try.f3 Rows.fnExactResizeScreenRow.domain false) (Rows.fnExactResizeScreenSpec.post enc Try.prog Try.f3 false true false false) := by
  refine returnsInHanded_of_change (C := Try.checked) own started (by kernel_rfl) Try.func3
    (ChangeSpec.witness6 (enc := enc) (C := Try.checked) false ⟨#[], #[.agg #[.int .i64 0, .int .i64 0, .int .i64 0, .int .i64 0, .int .i64 0, .int .i64 0, .int .i64 0, .int .i64 0, .int .i64 0, .string ByteArray.empty, .slice none 0 0, .slice none 0 0], .int .i64 0, .int .i64 0], []⟩ 8 (by kernel_rfl) (by kernel_rfl) (by kernel_rfl) (by kernel_rfl)) ?_
  intro W base args ds gs before hval0 hW hcnd _
  have hval : ∀ (j : Nat) t v, Try.f3.params[j]? = some t → args[j]? = some v → Value.okWide Try.prog W .any base t v := hval0
  have hW' := hW
  obtain ⟨p, q, hA0, hV, rfl, hfz, hnd⟩ := hW
  have hA : DataW.TrodAll enc Try.prog W 0 (fun _ => true) true Try.f3.params.toList args.toList ds p := hA0
  rw [Try.params3] at hA hval
  obtain ⟨v0, vs0, d0, ds0, p0, q0, hargs, rfl, rfl, h0, r0⟩ := trodAll_cons hA
  obtain ⟨v1, vs1, d1, ds1, p1, q1, rfl, rfl, rfl, h1, r1⟩ := trodAll_cons r0
  obtain ⟨v2, vs2, d2, ds2, p2, q2, rfl, rfl, rfl, h2, r2⟩ := trodAll_cons r1
  obtain ⟨rfl, rfl, rfl⟩ := trodAll_nil r2
  obtain rfl : args = #[v0, v1, v2] := by cases args; simp_all
  obtain ⟨rfl, rfl⟩ := trodVars_none hV
  have k0 := h0
  have lt0 : ∀ x ∈ p0, x.block < W.heap.size := by obtain ⟨m, hm⟩ := k0; exact DataW.trod_lt m _ _ _ hm
  obtain ⟨v0_0, v0_1, v0_2, v0_3, v0_4, v0_5, v0_6, v0_7, v0_8, v0_9, v0_10, v0_11, y0_0, y0_1, y0_2, y0_3, y0_4, y0_5, y0_6, y0_7, y0_8, y0_9, y0_10, y0_11, n0, rfl, g0_0, g0_1, g0_2, g0_3, g0_4, g0_5, g0_6, g0_7, g0_8, g0_9, g0_10, g0_11⟩ := open_agg12 Try.underlying25 (by kernel_rfl) (by kernel_rfl) (hval 0 25 v0 rfl rfl) h0
  obtain ⟨a0_0, rfl, w0_0⟩ := one_int Try.underlying3 g0_0
  obtain ⟨a0_1, rfl, w0_1⟩ := one_int Try.underlying3 g0_1
  obtain ⟨a0_2, rfl, w0_2⟩ := one_int Try.underlying3 g0_2
  obtain ⟨a0_3, rfl, w0_3⟩ := one_int Try.underlying3 g0_3
  obtain ⟨a0_4, rfl, w0_4⟩ := one_int Try.underlying3 g0_4
  obtain ⟨a0_5, rfl, w0_5⟩ := one_int Try.underlying3 g0_5
  obtain ⟨a0_6, rfl, w0_6⟩ := one_int Try.underlying3 g0_6
  obtain ⟨a0_7, rfl, w0_7⟩ := one_int Try.underlying3 g0_7
  obtain ⟨a0_8, rfl, w0_8⟩ := one_int Try.underlying3 g0_8
  obtain ⟨a0_9, rfl, w0_9⟩ := one_str Try.underlying9 g0_9
  obtain ⟨a0_10, len0_10, cap0_10, z0_10, rfl, w0_10, m0_10, s0_10, t0_10⟩ := one_cells Try.underlying22 Try.underlying52 (by kernel_rfl) (by kernel_rfl) Try.underlying3 Try.underlying3 (fun _ => rfl) g0_10
  obtain ⟨a0_11, len0_11, cap0_11, z0_11, rfl, w0_11, m0_11, s0_11, t0_11⟩ := one_strs Try.underlying23 Try.underlying9 (by kernel_rfl) (fun _ => rfl) g0_11
  have k1 := h1
  have lt1 : ∀ x ∈ p1, x.block < W.heap.size := by obtain ⟨m, hm⟩ := k1; exact DataW.trod_lt m _ _ _ hm
  obtain ⟨a1, rfl, e1, f1, w1⟩ := open_int Try.underlying3 (hval 1 3 v1 rfl rfl) h1
  have k2 := h2
  have lt2 : ∀ x ∈ p2, x.block < W.heap.size := by obtain ⟨m, hm⟩ := k2; exact DataW.trod_lt m _ _ _ hm
  obtain ⟨a2, rfl, e2, f2, w2⟩ := open_int Try.underlying3 (hval 2 3 v2 rfl rfl) h2
  clear hA0 hval0
  refine (Ytfdodbkopbmjeaa.walk_FnExactResizeScreen a0_0 w0_0 a0_1 w0_1 a0_2 w0_2 a0_3 w0_3 a0_4 w0_4 a0_5 w0_5 a0_6 w0_6 a0_7 w0_7 a0_8 w0_8 a0_9 w0_9 a0_10 len0_10 cap0_10 z0_10 w0_10 m0_10 s0_10 t0_10 a0_11 len0_11 cap0_11 z0_11 w0_11 m0_11 s0_11 t0_11 a1 w1 a2 w2 (w := W)).mono fun e W' ⟨he, bel⟩ => ?_
  subst he
  exact ⟨_, rfl, _, _, _, [], _, [], hW', trodAll_mk1 (shut_bool Try.underlying4 _), (trodAll_cons_mk (Below.trod laidOut (by kernel_rfl) (of_decide_eq_true (by kernel_rfl)) k0 bel lt0) (trodAll_cons_mk (Below.trod laidOut (by kernel_rfl) (of_decide_eq_true (by kernel_rfl)) k1 bel lt1) (trodAll_cons_mk (Below.trod laidOut (by kernel_rfl) (of_decide_eq_true (by kernel_rfl)) k2 bel lt2) trodAll_mk0))), rfl, bel.frame _, fun h => by cases h⟩

theorem over : Rows.fnExactResizeScreenRow.holds Try.pinned (OpenSpec.ofChange Rows.fnExactResizeScreenSpec) :=
  OpenClaim.holds_of_wide 3 Try.f3 rfl rfl rfl rfl rfl rfl rfl ⟨rfl, rfl, rfl, rfl, rfl⟩ rfl rfl rfl rfl rfl (by kernel_rfl) Try.func3 (by kernel_rfl)
    (of_decide_eq_true (by kernel_rfl)) (by unfold Func.isWrapper; first | (rw [if_pos (by decide +kernel)]; kernel_rfl) | (rw [if_neg (by decide +kernel)]; exact ⟨rfl, rfl⟩))
    (fun os started H enc _ => lifted os started H enc)

theorem proved : Rows.FnExactResizeScreenSaid := over
end Go.Proofs.Ytfdodbkopbmjeaa.fnExactResizeScreen
