/-
  Contracts of a row's text: l04Row of the reference, rowText of the given program. Conditions: the cells are valid, the row lies among them.
-/
import Derived.Test.YtfpbboldfilhlaaDoorRune
import Derived.Test.YtfpbboldfilhlaaDoorScrIs
namespace Go.Proofs.YtfpbboldfilhlaaDoor
open Go.ChangeShapes Go.WideShapes Go.ChangeAt Go.RowKit
set_option linter.unusedVariables false
set_option linter.unusedSimpArgs false
set_option maxRecDepth 100000
theorem cell_okR {c : Int × Int} (h : cellB c = true) : okR c.1 := by
  have hh := cell_facts h
  simp only [cellB, runeB, Bool.and_eq_true] at h
  obtain ⟨⟨⟨h1, h2⟩, h3⟩, h4⟩ := h
  refine ⟨hh.1, hh.2.1, fun ⟨a, b⟩ => ?_⟩
  simp [inR] at h3
  omega
/-- the text of row y -/
def rowTx (cs : List (Int × Int)) (W y : Nat) : List UInt8 := rowT ((rowC cs W y).map (·.1))
theorem ext_take (l : List UInt8) (e : Nat) : (⟨l.toArray⟩ : ByteArray).extract 0 e = ⟨(l.take e).toArray⟩ := by
  apply ByteArray.ext
  apply Array.ext'
  rw [Lib.extract_data]
  simp
theorem str_app (a b : List UInt8) : (⟨a.toArray⟩ : ByteArray) ++ ⟨b.toArray⟩ = ⟨(a ++ b).toArray⟩ := by
  apply ByteArray.ext
  simp
theorem str_size (l : List UInt8) : (⟨l.toArray⟩ : ByteArray).size = l.length := by show l.toArray.size = _; simp
structure RowK (rs : List Int) (k : Nat) (T : ByteArray) (e : Nat) : Prop where
  t : T = ⟨(runesB (rs.take k)).toArray⟩
  e : e = endR rs k
theorem RowK.first (rs : List Int) : RowK rs 0 ⟨#[]⟩ 0 := ⟨rfl, rfl⟩
theorem RowK.size {rs : List Int} {k : Nat} {T : ByteArray} {e : Nat} (h : RowK rs k T e) : T.size ≤ 4 * k := by
  rw [h.t, str_size]
  have h1 := runesB_length (rs.take k)
  have h2 : (rs.take k).length ≤ k := by rw [List.length_take]; omega
  omega
theorem RowK.next {rs : List Int} {k : Nat} {T : ByteArray} {e : Nat} (h : RowK rs k T e) {r : Int} (hr : rs[k]? = some r) :
    RowK rs (k + 1) (T ++ ⟨(Lib.encodeRune r).toArray⟩) (if r = 32 then e else (T ++ ⟨(Lib.encodeRune r).toArray⟩ : ByteArray).size) := by
  have h1 : runesB (rs.take (k + 1)) = runesB (rs.take k) ++ Lib.encodeRune r := by rw [List.take_add_one, hr, runesB_append]; simp [runesB]
  refine ⟨by rw [h.t, str_app, h1], ?_⟩
  rw [h.t, str_app, str_size, h.e, ← h1]
  simp only [endR, hr, Option.some.injEq]
theorem RowK.done {rs : List Int} {k : Nat} {T : ByteArray} {e : Nat} (h : RowK rs k T e) (hk : rs.length = k) (ho : ∀ r ∈ rs, okR r) : e ≤ T.size ∧ T.extract 0 e = ⟨(rowT rs).toArray⟩ := by
  obtain ⟨h1, h2⟩ := endR_spec ho k (by omega)
  have e1 : rs.take k = rs := List.take_of_length_le (Nat.le_of_eq hk)
  rw [e1] at h1 h2
  rw [h.t, h.e, e1, str_size, ext_take, h2]
  exact ⟨h1, rfl⟩
theorem enc_size (r : Int) : (⟨(Lib.encodeRune r).toArray⟩ : ByteArray).size ≤ 4 := by
  rw [str_size]
  have := (Lib.encodeRuneZ_length r).2
  simpa [Lib.encodeRune] using this
attribute [local irreducible] wpList
theorem runeCells_u8s (r : Int) : Lib.runeCells r = u8s (Lib.encodeRune r) := (Lib.byteCells_encodeRune r).symm
set_option maxHeartbeats 4000000 in
theorem rowText_any (sb : Nat) (wd ht x y lk tp bt sx sy : Int) (ti : ByteArray) (aC : Option Addr) (lenC capC : Nat) (cs : List (Int × Int)) (aH : Option Addr) (lenH capH : Nat) (Wn y' : Nat) (w : World) (hX : w.heap[sb]? = some (.cells #[.int .i64 wd, .int .i64 ht, .int .i64 x, .int .i64 y, .int .i64 lk, .int .i64 tp, .int .i64 bt, .int .i64 sx, .int .i64 sy, .string ti, .slice aC lenC capC, .slice aH lenH capH] 27 (0, 0))) (ha : At w aC (cellsV cs)) (hl : cs.length = lenC) (hn : lenC ≤ 1048576) (hcc : lenC ≤ capC) (hz : ∀ c ∈ cs, cellB c = true) (hwd : wd = (Wn : Int)) (hW2 : 2 ≤ Wn) (hW : Wn ≤ 24) (hy : y' ≤ 10) (hfit : y' * Wn + Wn ≤ lenC) :
    Calls Tryd.prog 18 #[.pointer (some ⟨sb, 0, none⟩), .int .i64 y'] w fun e w' => e = .returned (.string ⟨(rowTx cs Wn y').toArray⟩) ∧ Below w.heap.size w w' := by
  subst hwd
  obtain ⟨p, hp⟩ : ∃ p, y' * Wn = p := ⟨_, rfl⟩
  obtain ⟨p2, hp2⟩ : ∃ p, (y' + 1) * Wn = p := ⟨_, rfl⟩
  have hpp1 : p2 ≤ p + Wn := by rw [← hp, ← hp2, Nat.succ_mul]; exact Nat.le_refl _
  have hpp2 : p + Wn ≤ p2 := by rw [← hp, ← hp2, Nat.succ_mul]; exact Nat.le_refl _
  have hp240 : p ≤ 240 := by rw [← hp]; exact Nat.le_trans (Nat.mul_le_mul hy hW) (by decide)
  have m1 : (y' : Int) * (Wn : Int) = (p : Int) := by rw [← hp]; simp
  have m2 : ((y' : Int) + 1) * (Wn : Int) = (p2 : Int) := by rw [← hp2]; simp
  rw [hp] at hfit
  have hrow : rowC cs Wn y' = (cs.drop p).take Wn := by rw [rowC, hp]
  obtain ⟨b, off, rfl, _⟩ := ha.get (by intro e; have := congrArg List.length e; rw [length_cellsV, hl] at this; simp at this; omega)
  have HSUB := Lib.hid (at_sub ha p Wn)
  have HLR : Hid (((cs.drop p).take Wn).length = Wn) := by show _ = _; rw [List.length_take, List.length_drop, hl]; omega
  have HOR : Hid (∀ c ∈ (cs.drop p).take Wn, okR c.1) := fun c hc => cell_okR (hz c (List.mem_of_mem_drop (List.mem_of_mem_take hc)))
  rw [rowTx, hrow]
  clear ha hl hz hp hp2 hrow
  generalize (cs.drop p).take Wn = row at *
  obtain ⟨rs, hrs⟩ : ∃ rs, row.map (fun c => c.1) = rs := ⟨_, rfl⟩
  have HRL : Hid (rs.length = Wn) := by show _ = _; rw [← hrs, List.length_map]; exact HLR.out
  have HRG : Hid (∀ k (h : k < row.length), rs[k]? = some row[k].1) := fun k h => by rw [← hrs, List.getElem?_map, List.getElem?_eq_getElem h]; rfl
  rw [hrs]
  clear hrs
  have hne : ¬ capC = p := by omega
  have hne2 : ¬ (capC : Int) = (p : Int) := by omega
  have i1 : (0 : Int) ≤ (p : Int) := by omega
  have i2 : (p : Int) ≤ ((p2 : Nat) : Int) := by omega
  have i3 : ((p2 : Nat) : Int) ≤ (capC : Int) := by omega
  have i4 : p2 - p = Wn := by omega
  have hsb := box_lt hX
  have HB0 : Hid (Below w.heap.size w (w.alloc (.cells #[.pointer none, .slice none 0 0] 71))) := (Below.refl _ _).alloc (Nat.le_refl _) _
  have X0 := Lib.hid (box_below hX HB0.out hsb)
  have HBu : Hid (Lib.IsBuilderF 71 5 w.heap.size w.heap.size (u8s (runesB (rs.take 0))) (w.alloc (.cells #[.pointer none, .slice none 0 0] 71))) := Lib.IsBuilderF.of (.inl ⟨Nat.le_refl _, _, heap_alloc_new w _, World.ownsRow_nil _ _ _ _, by simp [Value.ownBlock]⟩)
  have hzW : w.heap.size < (w.alloc (.cells #[.pointer none, .slice none 0 0] 71)).heap.size := by simp
  clear hX
  go_enter Tryd.func18, Tryd.ntmps18
  go_wp2_with fail
  generalize (w.alloc (.cells #[.pointer none, .slice none 0 0] 71)) = W0 at *
  have x0 := box_cells X0.out
  go_quiet (fail)
  have HB1 : Hid (Below w.heap.size w (W0.drewN nq)) := ⟨HB0.out.os, HB0.out.tape, HB0.out.output, HB0.out.size, HB0.out.block⟩
  have HBu1 : Hid (Lib.IsBuilderF 71 5 w.heap.size w.heap.size (u8s (runesB (rs.take 0))) (W0.drewN nq)) := HBu.out
  have hzW1 : w.heap.size < (W0.drewN nq).heap.size := hzW
  generalize W0.drewN nq = W1 at *
  clear x0 X0 HBu HB0
  go_wp2_with fail
  go_loopw [27] (fun i wr => ∃ k : Nat, k ≤ Wn ∧ i = .int .i64 k ∧ Hid (Lib.IsBuilderF 71 5 w.heap.size w.heap.size (u8s (runesB (rs.take k))) wr) ∧ Below w.heap.size w wr ∧ w.heap.size < wr.heap.size) (fun i _ => Wn - (intOf i).toNat)
  case atStart => exact ⟨0, Nat.zero_le _, rfl, HBu1, HB1.out, hzW1⟩
  case round =>
    obtain ⟨k, hk, rfl, hB, hb, hz⟩ := hrel
    clear HBu1 HB1
    by_cases hkt : k < Wn
    · have hkl : k < row.length := by have := HLR.out; omega
      obtain ⟨b2, off2, he, c0, c1⟩ := (HSUB.out.below hb (Nat.le_refl _)).cell2 hkl
      simp only [Option.some.injEq, Addr.mk.injEq, and_true] at he
      obtain ⟨rfl, rfl⟩ := he
      obtain ⟨r1, r2, r3⟩ := HOR.out _ (List.getElem_mem hkl)
      have HN : Hid (runesB (rs.take (k + 1)) = runesB (rs.take k) ++ Lib.encodeRune row[k].1) := by
        show _ = _
        rw [List.take_add_one, HRG.out k hkl, runesB_append]
        simp [runesB]
      have HS : Hid ((u8s (runesB (rs.take k))).length ≤ 100) := by
        show _ ≤ _
        rw [length_u8s]
        have h1 := runesB_length (rs.take k)
        have h2 : (rs.take k).length ≤ k := by rw [List.length_take]; omega
        omega
      clear HRG
      generalize row[k].1 = r at *
      generalize row[k].2 = ll at *
      have ew := i32w (x := r) (by omega) r2
      have j1 : (0 : Int) ≤ (k : Int) := by omega
      have j2 : (k : Int) < (Wn : Int) := by omega
      have hA : Below wr.heap.size wr (wr.alloc (.cells #[.int .i64 r, .int .i64 ll] 57)) := (Below.refl _ _).alloc (Nat.le_refl _) _
      have HB2 := Lib.hid (isBuilderF_below hB.out hA)
      have HBL : Hid (Below w.heap.size w (wr.alloc (.cells #[.int .i64 r, .int .i64 ll] 57))) := hb.trans (hA.mono (by omega))
      have hzA : w.heap.size < (wr.alloc (.cells #[.int .i64 r, .int .i64 ll] 57)).heap.size := by simp; omega
      have x1 := box_cells (box_new wr (.cells #[.int .i64 r, .int .i64 ll] 57))
      clear hA hB hb r3
      go_wp2_with fail
      generalize (wr.alloc (.cells #[.int .i64 r, .int .i64 ll] 57)) = W2 at *
      refine (writeRune_any w.heap.size w.heap.size _ r _ (by omega) r2 HB2.out (by have := HS.out; omega) (by omega)).mono ?_
      rintro e w1 ⟨v, rfl, hB1, hb1⟩
      have HB3 : Hid (Lib.IsBuilderF 71 5 w.heap.size w.heap.size (u8s (runesB (rs.take (k + 1)))) w1) := by
        show Lib.IsBuilderF _ _ _ _ _ _
        rw [HN.out, u8s_append, ← runeCells_u8s]; exact hB1
      have HBB := Lib.hid (HBL.out.trans hb1)
      have hz1 := hb1.size
      clear hB1 hb1 x1 c0 c1
      go_wp2
      go_roundw
      case rel => exact ⟨k + 1, by omega, by go_num, HB3, HBB.out, by omega⟩
      case measure => simp [intOf] <;> omega
    · obtain rfl : k = Wn := by omega
      have HT : Hid (rs.take k = rs) := List.take_of_length_le (Nat.le_of_eq HRL.out)
      have hsz : (⟨(runesB (rs.take k)).toArray⟩ : ByteArray).size ≤ 9223372036854775807 := by
        rw [str_size]
        have h1 := runesB_length (rs.take k)
        have h2 : (rs.take k).length ≤ k := by rw [List.length_take]; omega
        omega
      go_wp2_with fail
      refine (Tryd.Builder_String_any_f w.heap.size w.heap.size (runesB (rs.take k)) _ hB.out (by omega)).mono ?_
      rintro e w1 ⟨rfl, _, hb1⟩
      go_wp2_with fail
      refine (Tryd.strings_TrimRight_one ⟨(runesB (rs.take k)).toArray⟩ 32 (by decide) _ hsz).mono ?_
      rintro e w2 ⟨rfl, rfl⟩
      have HBB := Lib.hid (hb.trans hb1)
      have HR : Hid ((⟨(Lib.trimRightB (⟨(runesB (rs.take k)).toArray⟩ : ByteArray).data.toList 32).toArray⟩ : ByteArray) = ⟨(rowT rs).toArray⟩) := by
        show _ = _
        rw [HT.out, rowT]
      clear hb hb1
      generalize (⟨(Lib.trimRightB (⟨(runesB (rs.take k)).toArray⟩ : ByteArray).data.toList 32).toArray⟩ : ByteArray) = T at *
      clear hsz HT
      go_wp2
      go_ret
      exact ⟨ret_str HR.out, HBB.out⟩
end Go.Proofs.YtfpbboldfilhlaaDoor
