/-
  Plain words about reading a screen: what both programs read is the same. No program. No condition.
-/
import Derived.Test.YtfabclhcceooaaaScrText
import Derived.Test.YtfabclhcceooaaaFieldsPlain
namespace Go.Proofs.Ytfabclhcceooaaa
open Go.ChangeShapes Go.WideShapes Go.ChangeAt Go.RowKit
set_option linter.unusedVariables false
set_option linter.unusedSimpArgs false

theorem numsB_readN : ∀ (k : Nat) (l : List UInt8), l.length = 3 * k → numsB (readL k l) = l
  | 0, l, h => by cases l with | nil => rfl | cons _ _ => simp at h
  | k + 1, l, h => by
    have e : numsB (readL (k + 1) l) = bigL (((numL (l.take 3) : Int) - 1) + 1).toNat 3 ++ numsB (readL k (l.drop 3)) := by simp [readL, numsB]
    rw [e, show (((numL (l.take 3) : Int) - 1) + 1).toNat = numL (l.take 3) from by omega, bigL_numL 3 _ (by simp; omega), numsB_readN k _ (by simp; omega), List.take_append_drop]
theorem fieldsF_bytes {s : ByteArray} {zs : List ByteArray} (h : fieldsF s = some zs) : fieldsL zs = s.data.toList := by
  rw [fieldsF] at h
  split at h
  · rename_i h0
    split at h
    · cases h
    · have hlen := fR_len _ _ _ h
      obtain ⟨_, i2⟩ := fR_back _ _ _ _ h0 h
      rw [fieldsL, i2, hlen]
      obtain ⟨⟨l⟩⟩ := s
      cases l with
      | nil => exact absurd h0 (Nat.lt_irrefl 0)
      | cons b l =>
        show UInt8.ofNat b.toNat :: l = b :: l
        simp
  · cases h
theorem fieldsF_each {s : ByteArray} {zs : List ByteArray} (h : fieldsF s = some zs) : ∀ x ∈ zs, x.size ≤ 20000 := by
  rw [fieldsF] at h
  split at h
  · rename_i h0
    split at h
    · cases h
    · exact (fR_back _ _ _ _ h0 h).1
  · cases h
theorem fieldsF_of (t : ByteArray) (zs : List ByteArray) (h : fieldsL zs = t.data.toList) (h1 : zs.length ≤ 60) (h2 : ∀ s ∈ zs, s.size ≤ 20000) : fieldsF t = some zs := by
  have ht : t = ⟨(fieldsL zs).toArray⟩ := by
    apply ByteArray.ext
    apply Array.toList_inj.1
    exact h.symm
  rw [ht]
  have h0 : 0 < (⟨(fieldsL zs).toArray⟩ : ByteArray).size := by show 0 < (fieldsL zs).toArray.size; simp [fieldsL]
  have hb : (⟨(fieldsL zs).toArray⟩ : ByteArray)[0].toNat = zs.length := by
    show (UInt8.ofNat zs.length).toNat = _
    simp; omega
  rw [fieldsF, dif_pos h0, hb, if_neg (by omega)]
  exact fR_fldB _ zs 1 h2 h0 rfl

/-- the i-th cell of a row's bytes -/
def cellA (l : List UInt8) (i : Nat) : Int × Int := ((numL ((l.drop (4 * i)).take 3) : Int), (numL ((l.drop (4 * i + 3)).take 1) : Int))
/-- so many cells of a row's bytes -/
def unC (k : Nat) (l : List UInt8) : List (Int × Int) := (List.range k).map (cellA l)
theorem unC_snoc (k : Nat) (l : List UInt8) : unC (k + 1) l = unC k l ++ [cellA l k] := by simp [unC, List.range_succ]
theorem length_unC (k : Nat) (l : List UInt8) : (unC k l).length = k := by simp [unC]
theorem numL_one {l : List UInt8} {j : Nat} (h : j < l.length) : numL ((l.drop j).take 1) = l[j].toNat := by
  rw [List.drop_eq_getElem_cons h, List.take_succ_cons, List.take_zero]
  simp [numL]
theorem cellL_cellA (l : List UInt8) (i : Nat) (h : 4 * i + 4 ≤ l.length) : cellL (cellA l i) = (l.drop (4 * i)).take 4 := by
  rw [cellL, cellA]
  show bigL ((numL ((l.drop (4 * i)).take 3) : Int)).toNat 3 ++ bigL ((numL ((l.drop (4 * i + 3)).take 1) : Int)).toNat 1 = _
  rw [Int.toNat_natCast, Int.toNat_natCast, bigL_numL 3 _ (by simp; omega), bigL_numL 1 _ (by simp; omega), ← List.drop_drop]
  generalize l.drop (4 * i) = x
  match x with
  | [] => rfl
  | [_] => rfl
  | [_, _] => rfl
  | [_, _, _] => rfl
  | _ :: _ :: _ :: _ :: _ => rfl
theorem cellsL_unC : ∀ (k : Nat) (l : List UInt8), 4 * k ≤ l.length → cellsL (unC k l) = l.take (4 * k)
  | 0, l, _ => by simp [unC, cellsL]
  | k + 1, l, h => by
    rw [unC_snoc, show cellsL (unC k l ++ [cellA l k]) = cellsL (unC k l) ++ cellL (cellA l k) from by simp [cellsL], cellsL_unC k l (by omega), cellL_cellA l k (by omega), show 4 * (k + 1) = 4 * k + 4 from rfl]
    exact (List.take_add).symm
def rowsU (W : Nat) (zs : List ByteArray) : List (Int × Int) := zs.flatMap fun r => unC W r.data.toList
def rowsV (zs : List ByteArray) : List (Int × Int) := zs.flatMap fun r => unC (r.size / 4) r.data.toList
theorem rowsV_rowsU {W : Nat} : ∀ (zs : List ByteArray), (∀ r ∈ zs, r.size = 4 * W) → rowsV zs = rowsU W zs
  | [], _ => rfl
  | a :: l, h => by
    have e1 : rowsV (a :: l) = unC (a.size / 4) a.data.toList ++ rowsV l := rfl
    have e2 : rowsU W (a :: l) = unC W a.data.toList ++ rowsU W l := rfl
    rw [e1, e2, rowsV_rowsU l (fun r hr => h r (List.mem_cons_of_mem _ hr)), h a List.mem_cons_self, Nat.mul_div_cancel_left _ (by omega)]
theorem length_rowsU (W : Nat) : ∀ (zs : List ByteArray), (rowsU W zs).length = zs.length * W
  | [] => by simp [rowsU]
  | a :: l => by
    have e2 : rowsU W (a :: l) = unC W a.data.toList ++ rowsU W l := rfl
    rw [e2, List.length_append, length_unC, length_rowsU W l, List.length_cons, Nat.succ_mul, Nat.add_comm]
theorem rowC_rowsU (W : Nat) : ∀ (zs : List ByteArray) (y : Nat) (h : y < zs.length), rowC (rowsU W zs) W y = unC W zs[y].data.toList
  | a :: l, 0, h => by
    have e2 : rowsU W (a :: l) = unC W a.data.toList ++ rowsU W l := rfl
    rw [rowC, e2, Nat.zero_mul, List.drop_zero, List.take_left' (length_unC _ _)]; rfl
  | a :: l, y + 1, h => by
    have e2 : rowsU W (a :: l) = unC W a.data.toList ++ rowsU W l := rfl
    have ih := rowC_rowsU W l y (by simpa using h)
    rw [rowC] at ih
    rw [rowC, e2, show (y + 1) * W = W + y * W from by rw [Nat.succ_mul, Nat.add_comm], ← List.drop_drop, List.drop_left' (length_unC _ _), ih]; rfl
theorem rowsL_rowsU {W : Nat} (zs : List ByteArray) (h : ∀ r ∈ zs, r.size = 4 * W) : rowsL (rowsU W zs) W zs.length = zs := by
  apply List.ext_getElem (length_rowsL _ _ _)
  intro i h1 h2
  have e : (rowsL (rowsU W zs) W zs.length)[i] = ⟨(cellsL (rowC (rowsU W zs) W i)).toArray⟩ := by simp [rowsL]
  have hs : zs[i].size = 4 * W := h _ (List.getElem_mem h2)
  rw [e, rowC_rowsU W zs i h2, cellsL_unC _ _ (by rw [size_list, hs]; exact Nat.le_refl _), List.take_of_length_le (by rw [size_list, hs]; exact Nat.le_refl _)]

structure ScrD where
  wd : Int
  ht : Int
  x : Int
  y : Int
  lk : Int
  tp : Int
  bt : Int
  sx : Int
  sy : Int
  ti : ByteArray
  cs : List (Int × Int)
  hs : List ByteArray
def ScrD.ok (d : ScrD) : Bool := scrB d.wd d.ht d.x d.y d.lk d.tp d.bt d.sx d.sy d.ti d.cs d.hs
def ScrD.text (d : ScrD) : List UInt8 := scrL d.wd d.ht d.x d.y d.lk d.tp d.bt d.sx d.sy d.ti d.cs d.hs
def scrOf (ns : List Int) (ti : ByteArray) (cs : List (Int × Int)) (hs : List ByteArray) : Option ScrD :=
  match ns with
  | [a0, a1, a2, a3, a4, a5, a6, a7, a8] => some ⟨a0, a1, a2, a3, a4, a5, a6, a7, a8, ti, cs, hs⟩
  | _ => none
theorem nine (l : List Int) (h : l.length = 9) : ∃ a0 a1 a2 a3 a4 a5 a6 a7 a8, l = [a0, a1, a2, a3, a4, a5, a6, a7, a8] := by
  match l, h with
  | [a0, a1, a2, a3, a4, a5, a6, a7, a8], _ => exact ⟨_, _, _, _, _, _, _, _, _, rfl⟩

/-- what the given program reads -/
def rdI (t : ByteArray) : Option ScrD :=
  match fieldsF t with
  | some (s0 :: s1 :: s2 :: rows) =>
    if s0.size = 27 then
      match fieldsF s2 with
      | some hs => (scrOf (readL 9 s0.data.toList) s1 (rowsV rows) hs).bind fun d => if d.ok = true ∧ d.text = t.data.toList then some d else none
      | none => none
    else none
  | _ => none
/-- what the reference reads -/
def rdJ (t : ByteArray) : Option ScrD :=
  match fieldsF t with
  | some (s0 :: s1 :: s2 :: rows) =>
    if s0.size = 27 then
      match fieldsF s2 with
      | some hs => (scrOf (readL 9 s0.data.toList) s1 [] hs).bind fun d =>
          if sizeB d.wd d.ht = true ∧ rows.length = d.ht.toNat ∧ (∀ r ∈ rows, r.size = 4 * d.wd.toNat) then
            (if ({ d with cs := rowsU d.wd.toNat rows } : ScrD).ok = true then some { d with cs := rowsU d.wd.toNat rows } else none)
          else none
      | none => none
    else none
  | _ => none

theorem rd_same (t : ByteArray) : rdI t = rdJ t := by
  rw [rdI, rdJ]
  cases hF : fieldsF t with
  | none => rfl
  | some zs =>
  match zs, hF with
  | [], _ => rfl
  | [_], _ => rfl
  | [_, _], _ => rfl
  | s0 :: s1 :: s2 :: rows, hF =>
    show (if s0.size = 27 then _ else none) = (if s0.size = 27 then _ else none)
    by_cases h27 : s0.size = 27
    · rw [if_pos h27, if_pos h27]
      cases hH : fieldsF s2 with
      | none => rfl
      | some hs =>
        obtain ⟨a0, a1, a2, a3, a4, a5, a6, a7, a8, hn⟩ := nine (readL 9 s0.data.toList) (length_readL _ _)
        rw [hn]
        show (if scrB a0 a1 a2 a3 a4 a5 a6 a7 a8 s1 (rowsV rows) hs = true ∧ scrL a0 a1 a2 a3 a4 a5 a6 a7 a8 s1 (rowsV rows) hs = t.data.toList then some (ScrD.mk a0 a1 a2 a3 a4 a5 a6 a7 a8 s1 (rowsV rows) hs) else none) =
          (if sizeB a0 a1 = true ∧ rows.length = a1.toNat ∧ (∀ r ∈ rows, r.size = 4 * a0.toNat) then (if scrB a0 a1 a2 a3 a4 a5 a6 a7 a8 s1 (rowsU a0.toNat rows) hs = true then some (ScrD.mk a0 a1 a2 a3 a4 a5 a6 a7 a8 s1 (rowsU a0.toNat rows) hs) else none) else none)
        by_cases hI : scrB a0 a1 a2 a3 a4 a5 a6 a7 a8 s1 (rowsV rows) hs = true ∧ scrL a0 a1 a2 a3 a4 a5 a6 a7 a8 s1 (rowsV rows) hs = t.data.toList
        · obtain ⟨hB, hT⟩ := hI
          have hf := scrB_fits _ _ _ _ _ _ _ _ _ _ hB
          have hl := scrStrs_len a0 a1 a2 a3 a4 a5 a6 a7 a8 s1 (rowsV rows) hs
          have hh1 := hf.h1
          have hh0 := hf.h0
          have hw0 := hf.w0
          have hF2 := fieldsF_of t (scrStrs a0 a1 a2 a3 a4 a5 a6 a7 a8 s1 (rowsV rows) hs) hT (by rw [hl]; omega) (fun s hs' => by have := scrStrs_small _ _ _ _ _ _ _ _ _ _ hf s hs'; omega)
          rw [hF] at hF2
          have e := Option.some.inj hF2
          have e3 : rows = rowsL (rowsV rows) a0.toNat a1.toNat := by
            have := congrArg (List.drop 3) e
            simpa [scrStrs] using this
          have hlen : rows.length = a1.toNat := by rw [e3, length_rowsL]
          have hcl : (rowsV rows).length = a0.toNat * a1.toNat := by
            have := hf.cl
            obtain ⟨m, rfl⟩ := Int.eq_ofNat_of_zero_le (show 0 ≤ a0 by omega)
            obtain ⟨n, rfl⟩ := Int.eq_ofNat_of_zero_le (show 0 ≤ a1 by omega)
            rw [← Int.natCast_mul] at this
            show _ = m * n
            omega
          have hsz : ∀ r ∈ rows, r.size = 4 * a0.toNat := by
            intro r hr
            rw [e3] at hr
            simp only [rowsL, List.mem_map, List.mem_range] at hr
            obtain ⟨k, hk, rfl⟩ := hr
            show (cellsL _).toArray.size = _
            rw [List.size_toArray, length_cellsL, length_rowC hcl hk]
          have hzz : sizeB a0 a1 = true := by
            simp only [scrB, Bool.and_eq_true] at hB
            exact hB.1.1.1.1.1.1.1.1.1.1.1.1
          rw [if_pos ⟨hB, hT⟩, if_pos ⟨hzz, hlen, hsz⟩, ← rowsV_rowsU rows hsz, if_pos hB]
        · rw [if_neg hI]
          by_cases hJ : sizeB a0 a1 = true ∧ rows.length = a1.toNat ∧ (∀ r ∈ rows, r.size = 4 * a0.toNat)
          · rw [if_pos hJ]
            obtain ⟨hz, hlen, hsz⟩ := hJ
            rw [← rowsV_rowsU rows hsz]
            by_cases hB : scrB a0 a1 a2 a3 a4 a5 a6 a7 a8 s1 (rowsV rows) hs = true
            · exfalso
              apply hI
              refine ⟨hB, ?_⟩
              have e1 : numsB (scrNums a0 a1 a2 a3 a4 a5 a6 a7 a8) = s0.data.toList := by
                rw [scrNums, ← hn]
                exact numsB_readN 9 _ (by rw [size_list, h27])
              have e2 := fieldsF_bytes hH
              have e3 : rowsL (rowsV rows) a0.toNat a1.toNat = rows := by rw [rowsV_rowsU rows hsz, ← hlen]; exact rowsL_rowsU rows hsz
              rw [scrL, scrStrs, e1, e2, e3]
              exact fieldsF_bytes hF
            · rw [if_neg hB]
          · rw [if_neg hJ]
    · rw [if_neg h27, if_neg h27]
end Go.Proofs.Ytfabclhcceooaaa
