/-
  Plain laws: which bytes are the encoding of a valid command. No program in sight.
-/
import Derived.Test.YtceaanampdcaeaaFieldsPlain
import Derived.Test.YtceaanampdcaeaaCmdBytes3
namespace Go.Proofs.Ytceaanampdcaeaa
open Go.ChangeShapes Go.WideShapes Go.ChangeAt Go.RowKit
set_option linter.unusedVariables false

structure CmdD where
  k : Int
  cl : Int
  sq : Int
  pn : Int
  n : Int
  ep : Int
  rw : Bool
  nm : ByteArray
  dt : ByteArray
def CmdD.zero : CmdD := ⟨0, 0, 0, 0, 0, 0, false, ⟨#[]⟩, ⟨#[]⟩⟩
def cmdOf (ns : List Int) (s1 s2 : ByteArray) : Option CmdD :=
  match ns with
  | [a0, a1, a2, a3, a4, a5, a6] => if (a6 = 0 ∨ a6 = 1) ∧ cmdB a0 a1 a2 a3 (a4 - 1000) a5 (a6 == 1) s1 s2 = true then some ⟨a0, a1, a2, a3, a4 - 1000, a5, a6 == 1, s1, s2⟩ else none
  | _ => none
def rdC (s : ByteArray) : Option CmdD :=
  match fieldsF s with
  | some [s0, s1, s2] => if s0.size = 21 then cmdOf (readL 7 s0.data.toList) s1 s2 else none
  | _ => none
theorem rdC_none {s : ByteArray} (h : fieldsF s = none) : rdC s = none := by rw [rdC, h]
theorem rdC_count {s : ByteArray} {zs : List ByteArray} (h : fieldsF s = some zs) (hl : zs.length ≠ 3) : rdC s = none := by
  rw [rdC, h]
  match zs, hl with
  | [], _ => rfl
  | [_], _ => rfl
  | [_, _], _ => rfl
  | [_, _, _], hl => exact absurd rfl hl
  | _ :: _ :: _ :: _ :: _, _ => rfl
theorem rdC_size {s s0 s1 s2 : ByteArray} (h : fieldsF s = some [s0, s1, s2]) (hl : s0.size ≠ 21) : rdC s = none := by
  rw [rdC, h]; show (if s0.size = 21 then _ else none) = _; rw [if_neg hl]
theorem rdC_of {s s0 s1 s2 : ByteArray} {a0 a1 a2 a3 a4 a5 a6 : Int} (h : fieldsF s = some [s0, s1, s2]) (hl : s0.size = 21) (hn : readL 7 s0.data.toList = [a0, a1, a2, a3, a4, a5, a6]) :
    rdC s = if (a6 = 0 ∨ a6 = 1) ∧ cmdB a0 a1 a2 a3 (a4 - 1000) a5 (a6 == 1) s1 s2 = true then some ⟨a0, a1, a2, a3, a4 - 1000, a5, a6 == 1, s1, s2⟩ else none := by
  rw [rdC, h]; show (if s0.size = 21 then _ else none) = _; rw [if_pos hl, hn]; rfl
theorem seven (l : List Int) (h : l.length = 7) : ∃ a0 a1 a2 a3 a4 a5 a6, l = [a0, a1, a2, a3, a4, a5, a6] := by
  match l, h with
  | [a0, a1, a2, a3, a4, a5, a6], _ => exact ⟨_, _, _, _, _, _, _, rfl⟩
theorem three {α : Type} (l : List α) (h : l.length = 3) : ∃ a b c, l = [a, b, c] := by
  match l, h with
  | [a, b, c], _ => exact ⟨_, _, _, rfl⟩

theorem numsB_readL : ∀ (k : Nat) (l : List UInt8), l.length = 3 * k → numsB (readL k l) = l
  | 0, l, h => by cases l with | nil => rfl | cons _ _ => simp at h
  | k + 1, l, h => by
    have e : numsB (readL (k + 1) l) = bigL (((numL (l.take 3) : Int) - 1) + 1).toNat 3 ++ numsB (readL k (l.drop 3)) := by simp [readL, numsB]
    rw [e, show (((numL (l.take 3) : Int) - 1) + 1).toNat = numL (l.take 3) from by omega, bigL_numL 3 _ (by simp; omega), numsB_readL k _ (by simp; omega), List.take_append_drop]
theorem readL_small : ∀ (k : Nat) (l : List UInt8) (x : Int), x ∈ readL k l → -1 ≤ x ∧ x ≤ 16777214
  | 0, l, x, h => by cases h
  | k + 1, l, x, h => by
    rw [readL] at h
    rcases List.mem_cons.1 h with rfl | h
    · have := numL_lt 3 (l.take 3) (by simp; omega)
      omega
    · exact readL_small k _ x h
theorem fieldsF_back {s : ByteArray} {zs : List ByteArray} (h : fieldsF s = some zs) : fieldsL zs = s.data.toList := by
  rw [fieldsF] at h
  split at h
  · rename_i h0
    split at h
    · cases h
    · have hlen := fR_len _ _ _ h
      obtain ⟨_, i2⟩ := fR_back _ _ _ _ h0 h
      rw [fieldsL, i2, hlen]
      obtain ⟨⟨l⟩⟩ := s
      cases l with
      | nil => exact absurd h0 (Nat.lt_irrefl 0)
      | cons b l =>
        show UInt8.ofNat b.toNat :: l = b :: l
        simp
  · cases h
theorem fieldsF_small {s : ByteArray} {zs : List ByteArray} (h : fieldsF s = some zs) : ∀ x ∈ zs, x.size ≤ 20000 := by
  rw [fieldsF] at h
  split at h
  · rename_i h0
    split at h
    · cases h
    · exact (fR_back _ _ _ _ h0 h).1
  · cases h
theorem fieldsL_three (x y z : ByteArray) : fieldsL [x, y, z] = 3 :: (bigL x.size 2 ++ (x.data.toList ++ fldB [y, z])) := by
  simp [fieldsL, fldB]
theorem cmdText_eq {s s0 s1 s2 : ByteArray} {a0 a1 a2 a3 a4 a5 a6 : Int} (h : fieldsF s = some [s0, s1, s2]) (hl : s0.size = 21) (hn : readL 7 s0.data.toList = [a0, a1, a2, a3, a4, a5, a6])
    (hc : cmdB a0 a1 a2 a3 (a4 - 1000) a5 (a6 == 1) s1 s2 = true) : (⟨(cmdL a0 a1 a2 a3 (a4 - 1000) a5 (a6 == 1) s1 s2).toArray⟩ : ByteArray) = s ↔ (a6 = 0 ∨ a6 = 1) := by
  have hb := fieldsF_back h
  have h7 : numsB (readL 7 s0.data.toList) = s0.data.toList := numsB_readL 7 _ (by rw [size_list, hl])
  have hx : (⟨(numsB (cmdNums a0 a1 a2 a3 (a4 - 1000) a5 (a6 == 1))).toArray⟩ : ByteArray).size = 21 := by
    show (numsB _).toArray.size = _; rw [List.size_toArray, cmdNums_len]
  have e1 : cmdNums a0 a1 a2 a3 (a4 - 1000) a5 (a6 == 1) = [a0, a1, a2, a3, a4, a5, bitI (a6 == 1)] := by
    rw [cmdNums, show a4 - 1000 + 1000 = a4 from by omega]
  constructor
  · intro e
    have e2 : cmdL a0 a1 a2 a3 (a4 - 1000) a5 (a6 == 1) s1 s2 = fieldsL [s0, s1, s2] := by rw [hb, ← e]
    rw [cmdL, cmdStrs, fieldsL_three, fieldsL_three, hx, hl] at e2
    have e3 := List.append_cancel_left (List.cons.inj e2).2
    have e4 : numsB (cmdNums a0 a1 a2 a3 (a4 - 1000) a5 (a6 == 1)) = s0.data.toList := (List.append_inj e3 (by rw [size_list, size_list, hx, hl])).1
    have e5 := readL_numsB _ (cmdNums_ok (rw := a6 == 1) (cmdB_fits hc))
    rw [e4, show (cmdNums a0 a1 a2 a3 (a4 - 1000) a5 (a6 == 1)).length = 7 from rfl, hn, e1] at e5
    have e6 : a6 = bitI (a6 == 1) := by simpa using e5
    rw [bitI] at e6
    split at e6 <;> omega
  · intro h6
    have e6 : bitI (a6 == 1) = a6 := by
      rcases h6 with rfl | rfl <;> rfl
    apply ByteArray.ext
    apply Array.toList_inj.1
    show cmdL a0 a1 a2 a3 (a4 - 1000) a5 (a6 == 1) s1 s2 = _
    rw [← hb, cmdL, cmdStrs, e1, e6, ← hn, h7]
end Go.Proofs.Ytceaanampdcaeaa
