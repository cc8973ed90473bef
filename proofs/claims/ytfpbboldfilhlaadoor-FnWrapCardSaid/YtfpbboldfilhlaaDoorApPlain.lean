/-
  Plain words of the actions on a screen: rows that move, what goes at the top, blank cells. No program in sight. No condition.
-/
import Derived.Test.YtfpbboldfilhlaaDoorApMem
import Derived.Test.YtfpbboldfilhlaaDoorRowT
namespace Go.Proofs.YtfpbboldfilhlaaDoor
open Go.RowKit
set_option linter.unusedVariables false
set_option linter.unusedSimpArgs false
def blC : Int × Int := (32, 0)
/-- n cells from s on are copied to d -/
def cpyL (cs : List (Int × Int)) (d s n : Nat) : List (Int × Int) := cs.take d ++ ((cs.drop s).take n ++ cs.drop (d + n))
/-- n blank cells from d on -/
def fillL (cs : List (Int × Int)) (d n : Nat) : List (Int × Int) := cs.take d ++ (List.replicate n blC ++ cs.drop (d + n))
theorem length_cpyL {cs : List (Int × Int)} {d s n : Nat} (h1 : d + n ≤ cs.length) (h2 : s + n ≤ cs.length) : (cpyL cs d s n).length = cs.length := by
  simp [cpyL]; omega
theorem length_fillL {cs : List (Int × Int)} {d n : Nat} (h1 : d + n ≤ cs.length) : (fillL cs d n).length = cs.length := by
  simp [fillL]; omega
theorem cell_blC : cellB blC = true := by decide
theorem cpyL_ok {cs : List (Int × Int)} (h : ∀ c ∈ cs, cellB c = true) (d s n : Nat) : ∀ c ∈ cpyL cs d s n, cellB c = true := by
  intro c hc
  simp only [cpyL, List.mem_append] at hc
  rcases hc with hc | hc | hc
  · exact h c (List.mem_of_mem_take hc)
  · exact h c (List.mem_of_mem_drop (List.mem_of_mem_take hc))
  · exact h c (List.mem_of_mem_drop hc)
theorem fillL_ok {cs : List (Int × Int)} (h : ∀ c ∈ cs, cellB c = true) (d n : Nat) : ∀ c ∈ fillL cs d n, cellB c = true := by
  intro c hc
  simp only [fillL, List.mem_append] at hc
  rcases hc with hc | hc | hc
  · exact h c (List.mem_of_mem_take hc)
  · rw [List.eq_of_mem_replicate hc]; exact cell_blC
  · exact h c (List.mem_of_mem_drop hc)
theorem set_ok {cs : List (Int × Int)} (h : ∀ c ∈ cs, cellB c = true) (k : Nat) {v : Int × Int} (hv : cellB v = true) : ∀ c ∈ cs.set k v, cellB c = true := by
  intro c hc
  rcases List.mem_or_eq_of_mem_set hc with h1 | h1
  · exact h c h1
  · rw [h1]; exact hv
/-- a text goes to the rows that went: at most six are kept -/
def pushH (hs : List ByteArray) (t : ByteArray) : List ByteArray := if 6 < hs.length + 1 then (hs ++ [t]).drop 1 else hs ++ [t]
theorem length_pushH {hs : List ByteArray} {t : ByteArray} (h : hs.length ≤ 6) : (pushH hs t).length ≤ 6 := by
  unfold pushH; split <;> simp <;> omega
theorem rowTx_size (cs : List (Int × Int)) (W y : Nat) : (rowTx cs W y).length ≤ 4 * W := by
  unfold rowTx rowT
  have h1 := trimB_len (runesB ((rowC cs W y).map (·.1)))
  have h2 := runesB_length ((rowC cs W y).map (·.1))
  have h3 : ((rowC cs W y).map (·.1)).length ≤ W := by rw [List.length_map, rowC, List.length_take]; omega
  omega
def rowBt (cs : List (Int × Int)) (W : Nat) : ByteArray := ⟨(rowTx cs W 0).toArray⟩
theorem pushH_ok {hs : List ByteArray} (h : ∀ t ∈ hs, t.size ≤ 96) {t : ByteArray} (ht : t.size ≤ 96) : ∀ u ∈ pushH hs t, u.size ≤ 96 := by
  intro u hu
  unfold pushH at hu
  have hu2 : u ∈ hs ++ [t] := by
    split at hu
    · exact List.mem_of_mem_drop hu
    · exact hu
  rcases List.mem_append.1 hu2 with h1 | h1
  · exact h u h1
  · simp at h1; rw [h1]; exact ht
/-- the cells and the texts that went, of a screen of W columns and H rows -/
structure Ok (W H : Nat) (cs : List (Int × Int)) (hs : List ByteArray) : Prop where
  w0 : 2 ≤ W
  w1 : W ≤ 24
  h0 : 2 ≤ H
  h1 : H ≤ 10
  cl : cs.length = W * H
  cz : ∀ c ∈ cs, cellB c = true
  hl : hs.length ≤ 6
  hz : ∀ t ∈ hs, t.size ≤ 96
def upC (W a b : Nat) (cs : List (Int × Int)) : List (Int × Int) := fillL (cpyL cs (a * W) ((a + 1) * W) ((b - a) * W)) (b * W) W
def dnC (W a b : Nat) (cs : List (Int × Int)) : List (Int × Int) := fillL (cpyL cs ((a + 1) * W) (a * W) ((b - a) * W)) (a * W) W
def upN (W a b : Nat) (keep : Bool) : Nat → List (Int × Int) → List ByteArray → List (Int × Int) × List ByteArray
  | 0, cs, hs => (cs, hs)
  | k + 1, cs, hs => (upC W a b (upN W a b keep k cs hs).1, if a = 0 ∧ keep = true then pushH (upN W a b keep k cs hs).2 (rowBt (upN W a b keep k cs hs).1 W) else (upN W a b keep k cs hs).2)
def dnN (W a b : Nat) : Nat → List (Int × Int) → List (Int × Int)
  | 0, cs => cs
  | k + 1, cs => dnC W a b (dnN W a b k cs)
section
variable {W H : Nat} {cs : List (Int × Int)} {hs : List ByteArray}
theorem Ok.pos (o : Ok W H cs hs) : 4 ≤ cs.length ∧ cs.length ≤ 240 := by
  rw [o.cl]
  exact ⟨Nat.mul_le_mul o.w0 o.h0, Nat.mul_le_mul o.w1 o.h1⟩
theorem Ok.row (o : Ok W H cs hs) {b : Nat} (hb : b < H) : b * W + W ≤ cs.length := by
  rw [o.cl, ← Nat.succ_mul, Nat.mul_comm W H]; exact Nat.mul_le_mul_right _ hb
/-- places of rows a and b, and what lies between -/
theorem Ok.rows (o : Ok W H cs hs) {a b : Nat} (hab : a ≤ b) (hb : b < H) : a * W + (b - a) * W = b * W ∧ (a + 1) * W + (b - a) * W = (b + 1) * W ∧ (b + 1) * W ≤ cs.length ∧ (a + 1) * W = a * W + W ∧ (b + 1) * W = b * W + W := by
  have h1 : (b + 1) * W = b * W + W := Nat.succ_mul _ _
  have h2 : (a + 1) * W = a * W + W := Nat.succ_mul _ _
  have h3 : a * W + (b - a) * W = b * W := by rw [← Nat.add_mul]; congr 1; omega
  have := o.row hb
  exact ⟨h3, by omega, by omega, h2, h1⟩
theorem Ok.upC (o : Ok W H cs hs) {a b : Nat} (hab : a ≤ b) (hb : b < H) : Ok W H (upC W a b cs) hs := by
  obtain ⟨r1, r2, r3, r4, r5⟩ := o.rows hab hb
  have l1 : (cpyL cs (a * W) ((a + 1) * W) ((b - a) * W)).length = cs.length := length_cpyL (by omega) (by omega)
  exact ⟨o.w0, o.w1, o.h0, o.h1, by rw [Proofs.YtfpbboldfilhlaaDoor.upC, length_fillL (by omega), l1, o.cl], fillL_ok (cpyL_ok o.cz _ _ _) _ _, o.hl, o.hz⟩
theorem Ok.dnC (o : Ok W H cs hs) {a b : Nat} (hab : a ≤ b) (hb : b < H) : Ok W H (dnC W a b cs) hs := by
  obtain ⟨r1, r2, r3, r4, r5⟩ := o.rows hab hb
  have l1 : (cpyL cs ((a + 1) * W) (a * W) ((b - a) * W)).length = cs.length := length_cpyL (by omega) (by omega)
  exact ⟨o.w0, o.w1, o.h0, o.h1, by rw [Proofs.YtfpbboldfilhlaaDoor.dnC, length_fillL (by omega), l1, o.cl], fillL_ok (cpyL_ok o.cz _ _ _) _ _, o.hl, o.hz⟩
theorem rowBt_size (o : Ok W H cs hs) : (rowBt cs W).size ≤ 96 := by
  have h1 := rowTx_size cs W 0
  have h2 := o.w1
  rw [rowBt, str_size]; omega
theorem Ok.push (o : Ok W H cs hs) : Ok W H cs (pushH hs (rowBt cs W)) := ⟨o.w0, o.w1, o.h0, o.h1, o.cl, o.cz, length_pushH o.hl, pushH_ok o.hz (rowBt_size o)⟩
theorem Ok.upN (o : Ok W H cs hs) {a b : Nat} (keep : Bool) (hab : a ≤ b) (hb : b < H) : ∀ k, Ok W H (upN W a b keep k cs hs).1 (upN W a b keep k cs hs).2
  | 0 => o
  | k + 1 => by
    have ih := Ok.upN o keep hab hb k
    simp only [Proofs.YtfpbboldfilhlaaDoor.upN]
    split
    · have := ih.push.upC hab hb; exact this
    · exact ih.upC hab hb
theorem Ok.dnN (o : Ok W H cs hs) {a b : Nat} (hab : a ≤ b) (hb : b < H) : ∀ k, Ok W H (dnN W a b k cs) hs
  | 0 => o
  | k + 1 => (Ok.dnN o hab hb k).dnC hab hb
end
end Go.Proofs.YtfpbboldfilhlaaDoor
