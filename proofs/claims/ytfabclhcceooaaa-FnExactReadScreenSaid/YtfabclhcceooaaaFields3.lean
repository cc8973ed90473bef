/-
  Contracts of the given program's FieldsBytes. Conditions: bounds on what is handed in.
-/
import Derived.Test.YtfabclhcceooaaaFields2
namespace Go.Proofs.Ytfabclhcceooaaa
open Go.ChangeShapes Go.WideShapes Go.ChangeAt Go.RowKit
set_option linter.unusedVariables false
set_option maxRecDepth 20000

/-- the text that the fields have, and the code -/
def fieldsT (zs : List ByteArray) : List UInt8 × Int :=
  if 60 < zs.length then ([], 6) else if (zs.any fun s => decide (20000 < s.size)) = true then ([], 4) else
    if 65536 < (fieldsL zs).length then ([], 7) else (fieldsL zs, 0)

set_option maxHeartbeats 1000000 in
theorem fieldsOf_any (ao : Option Addr) (n c : Nat) (zs : List ByteArray) (w : World) (ha : At w ao (strs zs)) (hl : zs.length = n) (hn : n ≤ maxLen) (hz : ∀ s ∈ zs, s.size ≤ maxLen) :
    Calls Try.prog 115 #[.slice ao n c] w fun e w' => e = .returned (.tuple #[.string ⟨(fieldsT zs).1.toArray⟩, .int .i64 (fieldsT zs).2]) ∧ Below w.heap.size w w' := by
  have HF := Lib.hid (containsFunc_strs (fun x => decide (20000 < x.size)) 121 (fun _ _ => by kernel_rfl) fieldLong_any ao n c zs w ha hl hn hz)
  by_cases h2 : 60 < n
  · have H : Hid (fieldsT zs = ([], 6)) := by show fieldsT zs = _; rw [fieldsT, hl, if_pos h2]
    clear hl hz HF
    go_enter Try.func115, Try.ntmps115
    go_wp2
    go_ret2
    exact ⟨by rw [H.out]; rfl, Below.refl _ _⟩
  cases hany : zs.any fun s => decide (20000 < s.size)
  case true =>
    have H : Hid (fieldsT zs = ([], 4)) := by show fieldsT zs = _; rw [fieldsT, hl, if_neg h2, if_pos hany]
    rw [hany] at HF
    clear hl hz hany
    go_enter Try.func115, Try.ntmps115
    go_wp2_with (go_at_call 83; refine HF.out.mono ?_; rintro e w' ⟨rfl, rfl⟩)
    go_ret2
    exact ⟨by rw [H.out]; rfl, Below.refl _ _⟩
  have H7 : Hid (65536 < (fieldsL zs).length → fieldsT zs = ([], 7)) := by
    intro h'; rw [fieldsT, hl, if_neg h2, if_neg (by rw [hany]; simp), if_pos h']
  have H0 : Hid (¬ 65536 < (fieldsL zs).length → fieldsT zs = (fieldsL zs, 0)) := by
    intro h'; rw [fieldsT, hl, if_neg h2, if_neg (by rw [hany]; simp), if_neg h']
  have hall : Hid (∀ s ∈ zs, s.size ≤ 20000) := by
    intro s hs
    have := List.any_eq_false.1 hany s hs
    simpa using this
  have HL := Lib.hid hl
  have HC : Hid (([Value.int .u8 (n : Int)] : List Value) = u8s [UInt8.ofNat zs.length]) := by
    show [Value.int .u8 (n : Int)] = [Value.int .u8 ((UInt8.ofNat zs.length).toNat : Int)]
    rw [hl]
    congr 2
    simp; omega
  rw [hany] at HF
  clear hl hz hany
  have hn60 : n ≤ 60 := by omega
  have hw8 : (n : Int) % 256 = (n : Int) := by omega
  clear h2 hn
  go_enter Try.func115, Try.ntmps115
  go_wp2_with (first
    | (go_at_call 83; refine HF.out.mono ?_; rintro e w' ⟨rfl, rfl⟩)
    | (go_at_call 122; (refine (writeByte_any w.heap.size w.heap.size [] (n : Int) _ (.inl ⟨Nat.le_refl _, _, heap_alloc_new w _, World.ownsRow_nil _ _ _ _, by simp [Value.ownBlock]⟩) (by decide) (by simp)).mono ?_; rintro e w1 ⟨rfl, hB1, hb1⟩))
    | fail)
  have hbA : Below w.heap.size w w1 := ((Below.refl _ _).alloc (Nat.le_refl _) _).trans hb1
  have hzA : w.heap.size < w1.heap.size := by have := hb1.size; simp at this; omega
  go_loopw [18] (fun i wr => ∃ k : Nat, k ≤ n ∧ i = .int .i64 k ∧ Lib.IsBuilder 102 5 w.heap.size w.heap.size (u8s (UInt8.ofNat zs.length :: fldB (zs.take k))) wr ∧ Below w.heap.size w wr ∧ w.heap.size < wr.heap.size) (fun i _ => n - (intOf i).toNat)
  case atStart => exact ⟨0, Nat.zero_le _, rfl, by rw [show (UInt8.ofNat zs.length :: fldB (zs.take 0)) = [UInt8.ofNat zs.length] from by simp [fldB], ← HC.out]; exact hB1, hbA, hzA⟩
  case round =>
    obtain ⟨k, hk, rfl, hB, hb, hz⟩ := hrel
    clear hB1 hb1 hbA hzA
    by_cases hkt : k < n
    · have hkz : k < zs.length := by have := HL.out; omega
      obtain ⟨b, off, rfl, hc⟩ := (ha.below hb (Nat.le_refl _)).get (strs_ne hkz)
      have hcell : wr.cell? ⟨b, off + k, none⟩ = some (.string zs[k]) := by rw [hc k (by simpa [strs] using hkz), strs_get _ _ _ hkz]
      have hsz : zs[k].size ≤ 20000 := hall.out _ (List.getElem_mem hkz)
      have HN : Hid (UInt8.ofNat zs.length :: fldB (zs.take (k + 1)) = (UInt8.ofNat zs.length :: fldB (zs.take k)) ++ (bigL zs[k].size 2 ++ zs[k].data.toList)) := by
        show _ = _
        rw [List.take_succ_eq_append_getElem hkz, fldB_snoc]; simp
      have HX : Hid (((⟨(bigL zs[k].size 2).toArray⟩ : ByteArray) ++ zs[k]) = ⟨(bigL zs[k].size 2 ++ zs[k].data.toList).toArray⟩) := by
        show _ = _
        apply ByteArray.ext; apply Array.toList_inj.1; rw [app_list]
      have hcat : (⟨(bigL zs[k].size 2).toArray⟩ : ByteArray).size ≤ 2 := Nat.le_of_eq (size_bigL _ _)
      have HSX : Hid (((⟨(bigL zs[k].size 2).toArray⟩ : ByteArray) ++ zs[k]).size ≤ 20002) := by show _ ≤ _; rw [ByteArray.size_append]; omega
      have i1 : (0 : Int) ≤ (k : Int) := by omega
      have i2 : (k : Int) < (n : Int) := by omega
      have HS : Hid ((u8s (UInt8.ofNat zs.length :: fldB (zs.take k))).length ≤ 50331648) := by
        show _ ≤ _
        have h1 := fldB_take zs k
        have h2 := fldB_len zs hall.out
        have h3 := HL.out
        simp only [u8s, List.length_map, List.length_cons]; omega
      clear hc ha
      go_wp2_with (first
        | (go_at_call 93; refine (bigBytes_any zs[k].size 2 _ (by omega) (by decide)).mono ?_; rintro e w1 ⟨rfl, hb1⟩)
        | (go_at_call 92; refine (writeString_any w.heap.size w.heap.size _ _ _ (isBuilder_below hB hb1 hz) (by have := HS.out; have := HSX.out; omega) (by have := hb1.size; omega)).mono ?_; rintro e w2 ⟨rfl, hB2, hb2⟩))
      go_roundw
      case rel =>
        refine ⟨k + 1, by omega, by go_num, ?_, (hb.trans (hb1.mono (by omega))).trans hb2, by have := hb1.size; have := hb2.size; omega⟩
        rw [HN.out, u8s_append, ← strCells_u8s (bigL _ _ ++ _), ← HX.out]
        exact hB2
      case measure => simp [intOf]; omega
    · have e : Hid (UInt8.ofNat zs.length :: fldB (zs.take k) = fieldsL zs) := by
        show _ = _
        rw [List.take_of_length_le (by have := HL.out; omega)]; rfl
      rw [e.out] at hB
      have HLn := Lib.hid (Try.Builder_Len w.heap.size w.heap.size (u8s (fieldsL zs)) wr hB)
      rw [show (u8s (fieldsL zs)).length = (fieldsL zs).length from by simp [u8s]] at HLn
      have HSt := Lib.hid (Try.Builder_String_any w.heap.size w.heap.size (fieldsL zs) wr hB (by omega))
      obtain ⟨L, hL⟩ : ∃ L, L = (fieldsL zs).length := ⟨_, rfl⟩
      have HLL := Lib.hid hL
      rw [← hL] at HLn
      clear hL
      by_cases hq : 65536 < L
      · have H : Hid (fieldsT zs = ([], 7)) := H7.out (by rw [← HLL.out]; exact hq)
        go_wp2_with (go_at_call 123; refine HLn.out.mono ?_; rintro e w' ⟨rfl, rfl⟩)
        go_ret2
        exact ⟨by rw [H.out]; rfl, hb⟩
      · have H : Hid (fieldsT zs = (fieldsL zs, 0)) := H0.out (by rw [← HLL.out]; exact hq)
        go_wp2_with (first | (go_at_call 123; refine HLn.out.mono ?_; rintro e w' ⟨rfl, rfl⟩) | (go_at_call 94; refine HSt.out.mono ?_; rintro e w1 ⟨rfl, hb1⟩))
        go_ret2
        exact ⟨by rw [H.out]; rfl, hb.trans hb1⟩

theorem fieldsT_cases (zs : List ByteArray) : fieldsT zs = ([], 6) ∨ fieldsT zs = ([], 4) ∨ fieldsT zs = ([], 7) ∨ fieldsT zs = (fieldsL zs, 0) := by
  unfold fieldsT
  repeat' split
  · exact .inl rfl
  · exact .inr (.inl rfl)
  · exact .inr (.inr (.inl rfl))
  · exact .inr (.inr (.inr rfl))
theorem fieldsR_T (zs : List ByteArray) : fieldsR zs = if 4096 < zs.length then ([], 2) else fieldsT zs := rfl

end Go.Proofs.Ytfabclhcceooaaa
