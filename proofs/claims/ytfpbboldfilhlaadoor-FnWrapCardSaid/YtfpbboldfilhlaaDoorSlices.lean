/-
  Contracts of the helpers of the laws' package that copy, compare, mark and look at slices. No condition beyond a bound on the length.
-/
import Derived.Test.YtfpbboldfilhlaaDoorBase
import Derived.Deep.QuietTactic
import Derived.BigQuiet
import Derived.RegionTactic
import Derived.Deep.RegionWith
import Derived.Lib.Strings
namespace Go.Proofs.YtfpbboldfilhlaaDoor
open Go.ChangeShapes Go.WideShapes Go.ChangeAt Go.RowKit
set_option linter.unusedVariables false

/-- a store into a cell of a slice that may be written: what it holds then, and what else has not turned -/
theorem Mine.store {B : Nat} {w : World} {b off : Nat} {xs : List Value} (hB : B ≤ b) (h : ∀ i (h : i < xs.length), w.cell? ⟨b, off + i, none⟩ = some xs[i] ∧ w.frozen? ⟨b, off + i, none⟩ = false) (k : Nat) (v : Value) :
    ∀ i (h : i < (xs.set k v).length), (w.setCell ⟨b, off + k, none⟩ v).cell? ⟨b, off + i, none⟩ = some (xs.set k v)[i] ∧ (w.setCell ⟨b, off + k, none⟩ v).frozen? ⟨b, off + i, none⟩ = false := by
  intro i hi
  have hi' : i < xs.length := by simpa using hi
  obtain ⟨h1, h2⟩ := h i hi'
  refine ⟨?_, by rw [World.frozen?_setCell]; exact h2⟩
  have hlt : b < w.heap.size := World.block_lt_of_cell? w _ h1
  obtain ⟨cs, t, fr, hh⟩ : ∃ cs t fr, w.heap[b]? = some (.cells cs t fr) := by
    simp only [World.cell?] at h1
    split at h1
    · rename_i c t f he; exact ⟨c, t, f, he⟩
    · cases h1
  have hc : cs[off + i]? = some xs[i] := by simpa [World.cell?, hh] using h1
  have hh' : (w.setCell ⟨b, off + k, none⟩ v).heap[b]? = some (.cells (cs.setIfInBounds (off + k) v) t fr) := by
    simp [World.setCell, Array.getElem?_modify, hh]
  have hcell : (w.setCell ⟨b, off + k, none⟩ v).cell? ⟨b, off + i, none⟩ = (cs.setIfInBounds (off + k) v)[off + i]? := by simp [World.cell?, hh']
  rw [hcell, Array.getElem?_setIfInBounds]
  have hsz : off + i < cs.size := (Array.getElem?_eq_some_iff.1 hc).1
  by_cases e : k = i
  · subst e; simp [hsz]
  · rw [if_neg (by omega), hc, List.getElem_set_ne (by omega)]

theorem made_one (z : Value) (n : Nat) : (madeCells #[z] n).toList = List.replicate n z := by
  simp [madeCells]
  apply List.ext_getElem (by simp)
  intro i h1 h2
  simp [Nat.mod_one]

theorem grownBy_setCell {w : World} {b off : Nat} {v : Value} : w.grownBy (w.setCell ⟨b, off, none⟩ v) (some b) :=
  ⟨rfl, rfl, rfl, by simp [World.setCell], fun k _ hk => Below.heap_setCell _ _ _ _ (by intro e; exact hk (by simp [e]))⟩
theorem grownBy_trans {a b c : World} {row : Option Nat} (h : a.grownBy b row) (k : b.grownBy c row) : a.grownBy c row :=
  ⟨k.os.trans h.os, k.tape.trans h.tape, k.output.trans h.output, Nat.le_trans h.size k.size, fun i hi hn => (k.block i (Nat.lt_of_lt_of_le hi h.size) hn).trans (h.block i hi hn)⟩
theorem grownBy_refl (w : World) (row : Option Nat) : w.grownBy w row := ⟨rfl, rfl, rfl, Nat.le_refl _, fun _ _ _ => rfl⟩
theorem grownBy_of_below {w w' : World} (row : Option Nat) (h : Below w.heap.size w w') : w.grownBy w' row := ⟨h.os, h.tape, h.output, h.size, fun k hk _ => h.block k hk⟩
theorem below_of_grownBy {B : Nat} {w w' : World} {row : Option Nat} (h : w.grownBy w' row) (hB : B ≤ w.heap.size) (hr : ∀ k, row = some k → B ≤ k) : Below B w w' := (Below.refl B w).grown h hB hr
/-- A slice of the call's own: its cells stand in one block from B on and before C, and may be written. -/
def Sl (B C : Nat) (w : World) (ao : Option Addr) (xs : List Value) : Prop :=
  xs = [] ∨ ∃ b off, ao = some ⟨b, off, none⟩ ∧ B ≤ b ∧ b < C ∧ ∀ i (h : i < xs.length), w.cell? ⟨b, off + i, none⟩ = some xs[i] ∧ w.frozen? ⟨b, off + i, none⟩ = false
theorem Sl.of {B : Nat} {w : World} {ao : Option Addr} {xs : List Value} (h : Mine B w ao xs) : Sl B w.heap.size w ao xs := by
  cases xs with
  | nil => exact .inl rfl
  | cons x xs =>
    obtain ⟨b, off, e, hB, h⟩ := h.get (by simp)
    exact .inr ⟨b, off, e, hB, World.block_lt_of_cell? w _ (h 0 (by simp)).1, h⟩
theorem Sl.mine {B C : Nat} {w : World} {ao : Option Addr} {xs : List Value} (h : Sl B C w ao xs) : Mine B w ao xs := by
  rcases h with h | ⟨b, off, e, hB, _, h⟩
  · exact .inl h
  · exact .inr ⟨b, off, e, hB, h⟩
theorem Sl.at {B C : Nat} {w : World} {ao : Option Addr} {xs : List Value} (h : Sl B C w ao xs) : At w ao xs := h.mine.at
/-- nothing below D turns: what lies before D stays -/
theorem Sl.below {B C D : Nat} {w w' : World} {ao : Option Addr} {xs : List Value} (h : Sl B C w ao xs) (hb : Below D w w') (hC : C ≤ D) : Sl B C w' ao xs := by
  rcases h with h | ⟨b, off, e, hB, hc, h⟩
  · exact .inl h
  · refine .inr ⟨b, off, e, hB, hc, fun i hi => ?_⟩
    rw [hb.cell (p := ⟨b, off + i, none⟩) (by exact Nat.lt_of_lt_of_le hc hC), hb.frozen (p := ⟨b, off + i, none⟩) (by exact Nat.lt_of_lt_of_le hc hC)]
    exact h i hi
/-- only blocks from B on and before C have turned, and blocks have come -/
structure Chg (B C : Nat) (w w' : World) : Prop where
  below : Below B w w'
  above : ∀ k, C ≤ k → k < w.heap.size → w'.heap[k]? = w.heap[k]?
theorem Sl.above {B C D E : Nat} {w w' : World} {ao : Option Addr} {xs : List Value} (h : Sl B C w ao xs) (hb : Chg D E w w') (hC : E ≤ B) : Sl B C w' ao xs := by
  rcases h with h | ⟨b, off, e, hB, hc, h⟩
  · exact .inl h
  · refine .inr ⟨b, off, e, hB, hc, fun i hi => ?_⟩
    have hk := hb.above b (by omega) (World.block_lt_of_cell? w _ (h i hi).1)
    rw [World.cell?_of_block (w := w) hk, World.frozen?_of_block (w := w) hk]
    exact h i hi

/-- the block of a slice's address -/
def blk (ao : Option Addr) : Option Nat := ao.map (·.block)
theorem At.grownBy {w w' : World} {ao : Option Addr} {xs : List Value} {row : Option Nat} (h : At w ao xs) (hg : w.grownBy w' row) (hne : xs = [] ∨ blk ao ≠ row) : At w' ao xs := by
  rcases hne with hne | hne
  · exact .inl hne
  rcases h with h | ⟨b, off, rfl, h⟩
  · exact .inl h
  · refine .inr ⟨b, off, rfl, fun i hi => ?_⟩
    rw [World.cell?_of_block (w := w) (hg.block b (World.block_lt_of_cell? w _ (h i hi)) (by simpa [blk] using hne))]
    exact h i hi
theorem Mine.grownBy {B : Nat} {w w' : World} {ao : Option Addr} {xs : List Value} {row : Option Nat} (h : Mine B w ao xs) (hg : w.grownBy w' row) (hne : xs = [] ∨ blk ao ≠ row) : Mine B w' ao xs := by
  rcases hne with hne | hne
  · exact .inl hne
  rcases h with h | ⟨b, off, rfl, hB, h⟩
  · exact .inl h
  · refine .inr ⟨b, off, rfl, hB, fun i hi => ?_⟩
    have hb := hg.block b (World.block_lt_of_cell? w _ (h i hi).1) (by simpa [blk] using hne)
    rw [World.cell?_of_block (w := w) hb, World.frozen?_of_block (w := w) hb]
    exact h i hi


theorem u8s_get (l : List UInt8) (k : Nat) (h : k < (u8s l).length) (h' : k < l.length) : (u8s l)[k] = (Value.int .u8 (l[k].toNat : Int)) := by simp [u8s]
theorem u8s_ne {l : List UInt8} {k : Nat} (h : k < l.length) : u8s l ≠ [] := by intro e; simp [u8s] at e; simp [e] at h

theorem Tryd.info_i8 : (Tryd.prog.info? 5).map (fun i => (i.zero, i.size, i.bytes)) = some (some (Value.int .u8 0), 1, 1) := by kernel_rfl

def marksByte (k0 n : Nat) : List UInt8 := (List.range n).map fun j => UInt8.ofNat (k0 + j)
theorem marksByte_cells (k0 j : Nat) : u8s (marksByte k0 (j + 1)) = u8s (marksByte k0 j) ++ [(Value.int .u8 (((k0 : Int) + (j : Int)) % 256))] := by
  simp [u8s, marksByte, List.range_succ]
theorem length_marksByte (k0 n : Nat) : (marksByte k0 n).length = n := by simp [marksByte]
theorem marksByte_get (k0 n j : Nat) (h : j < n) : (u8s (marksByte k0 n))[j]'(by simp [u8s, marksByte]; exact h) = (Value.int .u8 (((k0 : Int) + (j : Int)) % 256)) := by
  simp [u8s, marksByte]

theorem i64s_get (l : List Int) (k : Nat) (h : k < (i64s l).length) (h' : k < l.length) : (i64s l)[k] = (Value.int .i64 l[k]) := by simp [i64s]
theorem i64s_ne {l : List Int} {k : Nat} (h : k < l.length) : i64s l ≠ [] := by intro e; simp [i64s] at e; simp [e] at h

theorem Tryd.info_i64 : (Tryd.prog.info? 3).map (fun i => (i.zero, i.size, i.bytes)) = some (some (Value.int .i64 0), 1, 8) := by kernel_rfl

def marksInt (k0 n : Nat) : List Int := (List.range n).map fun j => ((k0 + j : Nat) : Int)
theorem marksInt_cells (k0 j : Nat) : i64s (marksInt k0 (j + 1)) = i64s (marksInt k0 j) ++ [(Value.int .i64 ((k0 : Int) + (j : Int)))] := by
  simp [i64s, marksInt, List.range_succ]
theorem length_marksInt (k0 n : Nat) : (marksInt k0 n).length = n := by simp [marksInt]
theorem marksInt_get (k0 n j : Nat) (h : j < n) : (i64s (marksInt k0 n))[j]'(by simp [i64s, marksInt]; exact h) = (Value.int .i64 ((k0 : Int) + (j : Int))) := by
  simp [i64s, marksInt]

theorem strs_get (l : List ByteArray) (k : Nat) (h : k < (strs l).length) (h' : k < l.length) : (strs l)[k] = (Value.string l[k]) := by simp [strs]
theorem strs_ne {l : List ByteArray} {k : Nat} (h : k < l.length) : strs l ≠ [] := by intro e; simp [strs] at e; simp [e] at h

theorem Tryd.info_istr : (Tryd.prog.info? 9).map (fun i => (i.zero, i.size, i.bytes)) = some (some (Value.string { data := #[] }), 1, 16) := by kernel_rfl

/-- a decimal digit's byte -/
def digB (d : Nat) : UInt8 := UInt8.ofNat (48 + d)
theorem digB_toNat (d : Nat) (h : d < 10) : ((digB d).toNat : Int) = 48 + (d : Int) := by unfold digB; simp; omega
/-- decimal digits, none of nought -/
def decF : Nat → Nat → List UInt8
  | 0, _ => []
  | f + 1, n => if n = 0 then [] else decF f (n / 10) ++ [digB (n % 10)]
theorem decF_more : ∀ (f n : Nat), n ≤ f → ∀ g, n ≤ g → decF f n = decF g n := by
  intro f
  induction f with
  | zero => intro n hn g _; obtain rfl : n = 0 := by omega
            cases g <;> simp [decF]
  | succ f ih =>
    intro n hn g hg
    cases g with
    | zero => obtain rfl : n = 0 := by omega
              simp [decF]
    | succ g =>
      by_cases h : n = 0
      · simp [decF, h]
      · simp only [decF, if_neg h]
        rw [ih (n / 10) (by omega) g (by omega)]
def dec0 (n : Nat) : List UInt8 := decF n n
theorem dec0_pos (n : Nat) (h : 0 < n) : dec0 n = dec0 (n / 10) ++ [digB (n % 10)] := by
  cases n with
  | zero => omega
  | succ n =>
    rw [dec0, decF, if_neg (by omega), decF_more n ((n + 1) / 10) (by omega) ((n + 1) / 10) (Nat.le_refl _)]
    rfl
theorem dec0_zero : dec0 0 = [] := rfl
def markT (k : Nat) : ByteArray := ⟨(109 :: dec0 k).toArray⟩
theorem dec0_le : ∀ (f n : Nat), n < 10 ^ f → (dec0 n).length ≤ f := by
  intro f
  induction f with
  | zero => intro n hn; obtain rfl : n = 0 := by simpa using hn
            simp [dec0_zero]
  | succ f ih =>
    intro n hn
    by_cases h : n = 0
    · subst h; simp [dec0_zero]
    · rw [dec0_pos n (by omega)]
      have := ih (n / 10) (by rw [Nat.pow_succ] at hn; omega)
      simp; omega

def marksString (k0 n : Nat) : List ByteArray := (List.range n).map fun j => markT (k0 + j)
theorem marksString_cells (k0 j : Nat) : strs (marksString k0 (j + 1)) = strs (marksString k0 j) ++ [Value.string (markT (k0 + j))] := by
  simp [strs, marksString, List.range_succ]
theorem marksString_get (k0 n j : Nat) (h : j < n) : (strs (marksString k0 n))[j]'(by simp [strs, marksString]; exact h) = Value.string (markT (k0 + j)) := by
  simp [strs, marksString]

end Go.Proofs.YtfpbboldfilhlaaDoor
