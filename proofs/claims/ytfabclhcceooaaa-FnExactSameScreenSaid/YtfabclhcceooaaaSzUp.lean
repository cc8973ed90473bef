/-
  Contract of szScreen of the laws' package, whatever is left. Conditions: bounds on lengths.
-/
import Derived.Test.YtfabclhcceooaaaScrTo
namespace Go.Proofs.Ytfabclhcceooaaa
open Go.ChangeShapes Go.WideShapes Go.ChangeAt Go.RowKit
set_option linter.unusedVariables false
set_option linter.unusedSimpArgs false
set_option maxRecDepth 20000

theorem szScreen_upto (wd ht x y lk tp bt sx sy : Int) (ti : ByteArray) (aC : Option Addr) (lenC capC : Nat) (aH : Option Addr) (lenH capH : Nat) (hs : List ByteArray) (q0 : Nat) (w : World) (hq0 : q0 ≤ 1048576) (hti : ti.size ≤ maxLen) (hnc : lenC ≤ maxLen) (hh : At w aH (strs hs)) (hlh : hs.length = lenH) (hnh : lenH ≤ maxLen) (hz : ∀ s ∈ hs, s.size ≤ maxLen) :
    Calls Try.prog 19 #[.agg #[.int .i64 wd, .int .i64 ht, .int .i64 x, .int .i64 y, .int .i64 lk, .int .i64 tp, .int .i64 bt, .int .i64 sx, .int .i64 sy, .string ti, .slice aC lenC capC, .slice aH lenH capH], .int .i64 (q0 : Int)] w fun e w' => ∃ r : Int, e = .returned (.int .i64 r) ∧ (0 ≤ r → lenC ≤ 1048576 ∧ lenH ≤ 1048576 ∧ ti.size ≤ 1048576) ∧ -1 ≤ r ∧ r ≤ 1048576 ∧ Below w.heap.size w w' := by
  have hb0 : ∀ o1, Below w.heap.size w (w.alloc o1) := fun o1 => (Below.refl _ _).alloc (Nat.le_refl _) _
  have HH := Lib.hid (hh.below (hb0 (.cells #[.int .i64 wd, .int .i64 ht, .int .i64 x, .int .i64 y, .int .i64 lk, .int .i64 tp, .int .i64 bt, .int .i64 sx, .int .i64 sy, .string ti, .slice aC lenC capC, .slice aH lenH capH] 37)) (Nat.le_refl _))
  have HB0 := Lib.hid hb0
  have HL := Lib.hid hlh
  have HZ := Lib.hid hz
  have HC := Lib.hid hnc
  have HN := Lib.hid hnh
  clear hb0 hlh hz hnc hnh hh
  unfold maxLen at hti
  by_cases hbig : q0 < ti.size
  · go_enter Try.func19, Try.ntmps19
    go_wp2
    go_ret
    exact ⟨_, rfl, by intro h; exact absurd h (by decide), by decide, by decide, HB0.out _⟩
  obtain ⟨d, hd⟩ : ∃ d : Nat, (q0 : Int) - (ti.size : Int) = (d : Int) ∧ d ≤ 1048576 := ⟨q0 - ti.size, by omega, by omega⟩
  have HD := Lib.hid hd.1
  have hd2 := hd.2
  clear hd
  go_enter Try.func19, Try.ntmps19
  go_wp2_with fail
  refine (szCellS_any aC lenC capC _ _ HC.out (by omega) (by omega)).mono ?_
  rintro e w1 ⟨r, rfl, hr, hr1, hr2, rfl⟩
  have HR := Lib.hid hr
  clear hr
  rcases Int.lt_or_le r 0 with hneg | hpos
  · go_wp2
    go_ret
    exact ⟨_, rfl, by intro h; exact absurd h (by decide), by decide, by decide, HB0.out _⟩
  obtain ⟨q, rfl⟩ : ∃ q : Nat, r = (q : Int) := ⟨r.toNat, by omega⟩
  go_wp2_with fail
  refine (szStringS_upto aH lenH capH hs q _ HH.out HL.out HN.out HZ.out (by omega)).mono ?_
  rintro e w1 ⟨r, rfl, hr, hr3, hr4, rfl⟩
  have HR2 := Lib.hid hr
  clear hr
  go_wp2
  all_goals go_ret
  all_goals refine ⟨_, rfl, ?_, by omega, by omega, HB0.out _⟩
  all_goals (intro h; have h1 := HR.out; have h2 := HR2.out; have h3 := HD.out; omega)

end Go.Proofs.Ytfabclhcceooaaa
