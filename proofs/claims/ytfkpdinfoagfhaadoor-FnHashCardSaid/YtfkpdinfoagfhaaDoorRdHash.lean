/-
  Contracts of ReadHash of the given program and of its reference. Conditions: the library's error for bad syntax stands in its variable.
-/
import Derived.Test.YtfkpdinfoagfhaaDoorRdParse
import Derived.Test.YtfkpdinfoagfhaaDoorLong
namespace Go.Proofs.YtfkpdinfoagfhaaDoor
open Go.ChangeShapes Go.WideShapes Go.ChangeAt Go.RowKit
set_option linter.unusedVariables false
set_option linter.unusedSimpArgs false
set_option maxRecDepth 100000

/-- the variable of the library's error holds an error -/
def ErrIn (w : World) : Prop := ∃ te pe, w.cell? ⟨2, 0, none⟩ = some (.iface te pe)
theorem ErrIn.below {C : Nat} {w w' : World} (h : ErrIn w) (hb : Below C w w') (hC : w.heap.size ≤ C) : ErrIn w' := by
  obtain ⟨te, pe, h⟩ := h
  exact ⟨te, pe, (hb.cell (p := ⟨2, 0, none⟩) (Nat.lt_of_lt_of_le (World.block_lt_of_cell? w _ h) hC)).trans h⟩

theorem parse16_ok (s : ByteArray) (w : World) (hs : s.size = 2) (h : okN dgV s.data.toList 2) :
    Calls Tryd.prog 25 #[.string s, .int .i64 16, .int .i64 8] w fun e w' => e = .returned (.tuple #[.int .u64 (numV s.data.toList 2 : Int), .nilIface]) ∧ Below w.heap.size w w' := by
  have HP := Lib.hid (parseIn_any s w hs)
  have H := Lib.hid h
  clear hs h
  go_enter Tryd.func25, Tryd.ntmps25
  go_wp2_with fail
  refine HP.out.mono ?_
  rintro e w1 ⟨⟨_, rfl⟩ | ⟨hn, _⟩, hb⟩
  · go_wp2
    go_ret2
    exact ⟨rfl, hb⟩
  · exact absurd H.out hn
/-- zero and some error -/
def BadParse (w : World) (e : Ending) (w' : World) : Prop := (∃ T v, e = .returned (.tuple #[.int .u64 0, .iface T v])) ∧ Below w.heap.size w w'
theorem parse16_bad (s : ByteArray) (w : World) (hs : s.size = 2) (h : ¬ okN dgV s.data.toList 2) (hE : ErrIn w) :
    Calls Tryd.prog 25 #[.string s, .int .i64 16, .int .i64 8] w (BadParse w) := by
  have HP := Lib.hid (parseIn_any s w hs)
  have HE := Lib.hid hE
  have H := Lib.hid h
  have hs2 : s.size ≤ 2 := by omega
  clear hs h hE
  go_enter Tryd.func25, Tryd.ntmps25
  go_wp2_with fail
  refine HP.out.mono ?_
  rintro e w1 ⟨⟨hn, _⟩ | ⟨_, rfl⟩, hb⟩
  · exact absurd hn H.out
  · obtain ⟨te, pe, hc⟩ := HE.out.below hb (Nat.le_refl _)
    have HC := Lib.hid hc
    clear hc
    go_wp2_with fail
    refine (Tryd.strconv_toError_syntax _ s 16 8 (.iface te pe) w1 (by omega) HC.out (.inr ⟨_, _, rfl⟩)).mono ?_
    rintro e w2 ⟨N, rfl, hN, hcN, hb2⟩
    go_wp2
    go_ret2
    exact ⟨⟨_, _, rfl⟩, hb.trans (hb2.mono hb.size)⟩

/-- the value of a small digit, or -1 -/
def nibI (c : UInt8) : Int := if nibV c < 16 then (nibV c : Int) else -1
theorem nibble_any (c : UInt8) (w : World) :
    Calls Tryd.prog 34 #[.int .u8 (c.toNat : Int)] w fun e w' => e = .returned (.int .i64 (nibI c)) ∧ w = w' := by
  have hx : c.toNat < 256 := c.toNat_lt
  obtain ⟨r, hr⟩ : ∃ r, nibI c = r := ⟨_, rfl⟩
  obtain ⟨x, hxx⟩ : ∃ x, c.toNat = x := ⟨_, rfl⟩
  have HV : ∀ v, (v : Int) = (if 48 ≤ x ∧ x ≤ 57 then (x : Int) - 48 else if 97 ≤ x ∧ x ≤ 102 then (x : Int) - 97 + 10 else -1) → r = v := by
    rintro v rfl
    rw [← hr, nibI, nibV, hxx]
    split
    · rw [if_pos (by omega)]; omega
    · split
      · rw [if_pos (by omega)]; omega
      · rw [if_neg (by omega)]
  rw [hxx] at hx ⊢
  rw [hr]
  have HW := Lib.hid HV
  clear HV hr hxx
  by_cases h1 : 48 ≤ x ∧ x ≤ 57
  · have HE := Lib.hid (HW.out ((x : Int) - 48) (by rw [if_pos h1]))
    obtain ⟨h2, h3⟩ := h1
    go_enter Tryd.func34, Tryd.ntmps34
    go_wp2
    all_goals try (exfalso; omega)
    all_goals
      go_ret
      exact ⟨ret_int HE.out.symm, rfl⟩
  · by_cases h4 : 97 ≤ x ∧ x ≤ 102
    · have HE := Lib.hid (HW.out ((x : Int) - 97 + 10) (by rw [if_neg h1, if_pos h4]))
      obtain ⟨h2, h3⟩ := h4
      go_enter Tryd.func34, Tryd.ntmps34
      go_wp2
      all_goals try (exfalso; omega)
      all_goals
        go_ret
        exact ⟨ret_int HE.out.symm, rfl⟩
    · have HE := Lib.hid (HW.out (-1) (by rw [if_neg h1, if_neg h4]))
      go_enter Tryd.func34, Tryd.ntmps34
      go_wp2
      all_goals try (exfalso; omega)
      all_goals
        go_ret
        exact ⟨ret_int HE.out.symm, rfl⟩
end Go.Proofs.YtfkpdinfoagfhaaDoor
