/-
  Contracts of ActionOK of the given program and of its reference. Conditions: bounds on lengths.
-/
import Derived.Test.YtfflmmkkgcijgaaDoorAct
import Derived.BigQuiet
namespace Go.Proofs.YtfflmmkkgcijgaaDoor
open Go.ChangeShapes Go.WideShapes Go.ChangeAt Go.RowKit
set_option linter.unusedVariables false
set_option linter.unusedSimpArgs false

def actB (kd n : Int) (pv : Bool) (zs : List Int) (tx : ByteArray) : Bool :=
  if kd = 4 then inR n 64 126 && argsB zs && noT tx
  else !pv && decide (zs.length = 0) && (if kd = 5 then decide (n = 0) && titleB tx else noT tx && (if kd = 1 then runeB n else if kd = 2 then ctlB n else if kd = 3 then escB n else false))

set_option maxHeartbeats 1000000 in
set_option maxRecDepth 100000 in
theorem isAction_any (kd n : Int) (pv : Bool) (ao : Option Addr) (len cap : Nat) (zs : List Int) (tx : ByteArray) (w : World) (ha : At w ao (i64s zs)) (hl : zs.length = len) (hn : len ≤ maxLen) (ht : tx.size ≤ maxLen) :
    Calls Tryd.prog 31 #[.agg #[.int .i64 kd, .int .i64 n, .bool pv, .slice ao len cap, .string tx]] w fun e w' => e = .returned (.bool (actB kd n pv zs tx)) ∧ Below w.heap.size w w' := by
  have hb0 : Below w.heap.size w (w.alloc (.cells #[.int .i64 kd, .int .i64 n, .bool pv, .slice ao len cap, .string tx] 40)) := (Below.refl _ _).alloc (Nat.le_refl _) _
  have HA := Lib.hid (areArgs_any ao len cap zs (w.alloc (.cells #[.int .i64 kd, .int .i64 n, .bool pv, .slice ao len cap, .string tx] 40)) (ha.below hb0 (Nat.le_refl _)) hl hn)
  have HT := Lib.hid (fun w => isTitle_any tx w ht)
  unfold maxLen at hn
  have HB : Hid (actB kd n pv zs tx = if kd = 4 then inR n 64 126 && argsB zs && noT tx
    else !pv && decide (len = 0) && (if kd = 5 then decide (n = 0) && titleB tx else noT tx && (if kd = 1 then runeB n else if kd = 2 then ctlB n else if kd = 3 then escB n else false))) := by show _ = _; rw [actB, hl]
  generalize actB kd n pv zs tx = R at *
  generalize argsB zs = ab at *
  generalize titleB tx = tb at *
  clear hl ha
  go_enter Tryd.func31, Tryd.ntmps31
  go_wp2_with (first
    | (go_at_call 23; refine (with_val _ _ _ _ _ rfl).mono ?_; rintro e w' ⟨rfl, rfl⟩)
    | (go_at_call 52; refine HA.out.mono ?_; rintro e w' ⟨rfl, rfl⟩)
    | (go_at_call 44; refine (isRune_any _ _).mono ?_; rintro e w' ⟨rfl, rfl⟩)
    | (go_at_call 53; refine (isControl_any _ _).mono ?_; rintro e w' ⟨rfl, rfl⟩)
    | (go_at_call 54; refine (isEscape_any _ _).mono ?_; rintro e w' ⟨rfl, rfl⟩)
    | (go_at_call 39; refine (HT.out _).mono ?_; rintro e w' ⟨rfl, rfl⟩))
  all_goals (go_ret; refine ⟨ret_bool ?_, (Below.refl _ _).alloc (Nat.le_refl _) _⟩)
  all_goals rw [HB.out]
  all_goals clear hb0 HA HT HB
  all_goals first
    | (simp_all [noT]; done)
    | (simp_all [noT]; omega)
end Go.Proofs.YtfflmmkkgcijgaaDoor
