/-
  Plain laws: fields and numbers are read back; bytes that are read are those of what was read. No program in sight.
-/
import Derived.Test.YtfabclhcceooaaaReadFields
import Derived.Test.YtfabclhcceooaaaReadNumbers
import Derived.Test.YtfabclhcceooaaaFields
namespace Go.Proofs.Ytfabclhcceooaaa
open Go.ChangeShapes Go.WideShapes Go.ChangeAt Go.RowKit
set_option linter.unusedVariables false
set_option maxRecDepth 20000

theorem numL_bigL : ∀ (c n : Nat), n < 256 ^ c → numL (bigL n c) = n
  | 0, n, h => by simp at h; subst h; rfl
  | c + 1, n, h => by
    rw [bigL, numL_snoc, numL_bigL c (n / 256) (by rw [Nat.pow_succ] at h; omega)]
    simp; omega
theorem bigL_numL : ∀ (c : Nat) (l : List UInt8), l.length = c → bigL (numL l) c = l
  | 0, l, h => by cases l with | nil => rfl | cons _ _ => cases h
  | c + 1, l, h => by
    have hne : l ≠ [] := by intro e; subst e; cases h
    have hs := List.dropLast_concat_getLast hne
    generalize l.getLast hne = b at hs
    have hb := b.toNat_lt
    have hd : l.dropLast.length = c := by rw [List.length_dropLast, h]; rfl
    rw [← hs, numL_snoc, bigL, show (numL l.dropLast * 256 + b.toNat) / 256 = numL l.dropLast from by omega, show (numL l.dropLast * 256 + b.toNat) % 256 = b.toNat from by omega, bigL_numL c _ hd]
    simp

theorem ext_list (t : ByteArray) (p q : Nat) : (t.extract p q).data.toList = (t.data.toList.drop p).take (q - p) := by rw [Lib.extract_data]

theorem fR_fldB (t : ByteArray) : ∀ (zs : List ByteArray) (p : Nat), (∀ s ∈ zs, s.size ≤ 20000) → p ≤ t.size → t.data.toList.drop p = fldB zs → fR t zs.length p = some zs
  | [], p, _, hp, hd => by
    have : t.data.toList.length ≤ p := by simpa [fldB] using hd
    rw [size_list] at this
    show fR t 0 p = _
    rw [fR, if_pos (by omega)]
  | s :: zs, p, hz, hp, hd => by
    have hs : s.size ≤ 20000 := hz s (by simp)
    have hd' : t.data.toList.drop p = bigL s.size 2 ++ (s.data.toList ++ fldB zs) := by rw [hd]; simp [fldB]
    have hlen : t.size - p = 2 + (s.size + (fldB zs).length) := by
      have := congrArg List.length hd'
      simpa [length_bigL, size_list] using this
    have hx : numL (t.extract p (p + 2)).data.toList = s.size := by
      rw [ext_list, hd', show p + 2 - p = 2 from by omega, List.take_left' (length_bigL _ _), numL_bigL _ _ (by omega)]
    have hy : t.extract (p + 2) (p + 2 + s.size) = s := by
      apply ByteArray.ext
      apply Array.toList_inj.1
      rw [ext_list, ← List.drop_drop, hd', List.drop_left' (length_bigL _ _), show p + 2 + s.size - (p + 2) = s.size from by omega, List.take_left' (size_list s)]
    have hd2 : t.data.toList.drop (p + 2 + s.size) = fldB zs := by
      rw [← List.drop_drop, ← List.drop_drop, hd', List.drop_left' (length_bigL _ _), List.drop_left' (size_list s)]
    have ih := fR_fldB t zs (p + 2 + s.size) (fun x hx => hz x (by simp [hx])) (by omega) hd2
    have := fR_step (k := zs.length) [] hx hs (by omega)
    rw [ih, hy] at this
    simpa using this

theorem fR_back (t : ByteArray) : ∀ (k p : Nat) (zs : List ByteArray), p ≤ t.size → fR t k p = some zs → (∀ s ∈ zs, s.size ≤ 20000) ∧ fldB zs = t.data.toList.drop p
  | 0, p, zs, hp, h => by
    rw [fR] at h
    split at h
    · cases h
      refine ⟨fun s hs => (by cases hs), ?_⟩
      rw [List.drop_eq_nil_of_le (by rw [size_list]; omega)]; rfl
    · cases h
  | k + 1, p, zs, hp, h => by
    rw [fR] at h
    split at h
    · cases h
    · split at h
      · cases h
      · split at h
        · cases h
        · rename_i h1 h2 h3
          generalize hn : numL (t.extract p (p + 2)).data.toList = n at h h2 h3
          cases hr : fR t k (p + 2 + n) with
          | none => rw [hr] at h; cases h
          | some ys =>
            rw [hr] at h
            simp only [Option.map_some, Option.some.injEq] at h
            subst h
            obtain ⟨i1, i2⟩ := fR_back t k (p + 2 + n) ys (by omega) hr
            have hsz : (t.extract (p + 2) (p + 2 + n)).size = n := by rw [ByteArray.size_extract]; omega
            refine ⟨fun s hs => ?_, ?_⟩
            · rcases List.mem_cons.1 hs with rfl | hs
              · omega
              · exact i1 s hs
            · have e1 : bigL n 2 = (t.data.toList.drop p).take 2 := by
                have := bigL_numL 2 (t.extract p (p + 2)).data.toList (by rw [size_list, ByteArray.size_extract]; omega)
                rw [hn, ext_list, show p + 2 - p = 2 from by omega] at this
                exact this
              have e2 : (t.extract (p + 2) (p + 2 + n)).data.toList = ((t.data.toList.drop p).drop 2).take n := by
                rw [ext_list, List.drop_drop, show p + 2 + n - (p + 2) = n from by omega]
              show (bigL (t.extract (p + 2) (p + 2 + n)).size 2 ++ (t.extract (p + 2) (p + 2 + n)).data.toList) ++ fldB ys = _
              rw [hsz, e1, e2, i2, List.append_assoc, show p + 2 + n = p + (2 + n) from by omega, ← List.drop_drop, ← List.drop_drop, List.take_append_drop, List.take_append_drop]

/-- fields are read back -/
theorem readFieldR_fieldsL (zs : List ByteArray) (h1 : zs.length ≤ 60) (h2 : ∀ s ∈ zs, s.size ≤ 20000) (h3 : (fieldsL zs).length ≤ 65536) : readFieldR (fieldsL zs) = (zs, 0) := by
  have hF : fieldsF ⟨(fieldsL zs).toArray⟩ = some zs := by
    have h0 : 0 < (⟨(fieldsL zs).toArray⟩ : ByteArray).size := by show 0 < (fieldsL zs).toArray.size; simp [fieldsL]
    have hb : (⟨(fieldsL zs).toArray⟩ : ByteArray)[0].toNat = zs.length := by
      show (UInt8.ofNat zs.length).toNat = _
      simp; omega
    rw [fieldsF, dif_pos h0, hb, if_neg (by omega)]
    exact fR_fldB _ zs 1 h2 h0 rfl
  rw [readFieldR, if_neg (by omega), hF]

/-- what was read has just those bytes -/
theorem fieldsR_read (l : List UInt8) (zs : List ByteArray) (h : readFieldR l = (zs, 0)) : fieldsR zs = (l, 0) := by
  rw [readFieldR] at h
  split at h
  · cases h
  · rename_i hl
    cases hF : fieldsF ⟨l.toArray⟩ with
    | none => rw [hF] at h; cases h
    | some ys =>
      rw [hF] at h
      obtain rfl : ys = zs := by cases h; rfl
      have h60 := fieldsF_len hF
      rw [fieldsF] at hF
      split at hF
      · rename_i h0
        split at hF
        · cases hF
        · have hlen := fR_len _ _ _ hF
          obtain ⟨i1, i2⟩ := fR_back _ _ _ _ h0 hF
          have e : fieldsL ys = l := by
            rw [fieldsL, i2, hlen]
            cases l with
            | nil => cases h0
            | cons b l =>
              show UInt8.ofNat b.toNat :: l = b :: l
              simp
          have hany : ¬ (ys.any fun s => decide (20000 < s.size)) = true := by
            rw [List.any_eq_true]
            rintro ⟨s, hs, hh⟩
            have := i1 s hs
            simp at hh; omega
          rw [fieldsR, if_neg (by omega), if_neg (by omega), if_neg hany, e, if_neg hl]
      · cases hF

/-- numbers are read back -/
theorem readL_numsB : ∀ (zs : List Int), zs.all okNum = true → readL zs.length (numsB zs) = zs
  | [], _ => rfl
  | n :: zs, h => by
    simp only [List.all_cons, Bool.and_eq_true] at h
    obtain ⟨h1, h2⟩ := h
    simp only [okNum, Bool.and_eq_true, decide_eq_true_eq] at h1
    have e : numsB (n :: zs) = bigL (n + 1).toNat 3 ++ numsB zs := by simp [numsB]
    rw [e, List.length_cons, readL, List.take_left' (length_bigL _ _), List.drop_left' (length_bigL _ _), readL_numsB zs h2, numL_bigL _ _ (by omega)]
    congr 1
    omega
theorem readNumR_numsB (zs : List Int) (h : zs.all okNum = true) (hl : zs.length ≤ 4096) : readNumR (numsB zs) = (zs, 0) := by
  rw [readNumR, length_numsB, if_neg (by omega), if_neg (by omega), if_neg (by omega), show 3 * zs.length / 3 = zs.length from by omega, readL_numsB zs h]
end Go.Proofs.Ytfabclhcceooaaa
