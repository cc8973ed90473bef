/-
  Words about memory that the proofs of this seat use: what stands at an address, cell behind cell. No program. No condition.
-/
import Derived.Test.YtfpbboldfilhlaaDoorRows
import Derived.WalkKit
import Derived.ProofKit
import Derived.OpenShut
import Derived.ChangeOld
import Derived.Below
import Derived.Outline
import Derived.BigGuardPart
import Derived.Lib.Hide
import Derived.Laws.IdiomStrings
namespace Go.Proofs.YtfpbboldfilhlaaDoor
open Go.RowKit
set_option linter.unusedVariables false

theorem ret_bool {a b : Bool} (h : a = b) : Ending.returned (.bool a) = .returned (.bool b) := by rw [h]
theorem ret_int {k : IntKind} {a b : Int} (h : a = b) : Ending.returned (.int k a) = .returned (.int k b) := by rw [h]
theorem ret_str {a b : ByteArray} (h : a = b) : Ending.returned (.string a) = .returned (.string b) := by rw [h]

/-- the cells of bytes, numbers, texts -/
def u8s (l : List UInt8) : List Value := l.map fun b => .int .u8 (b.toNat : Int)
def i64s (l : List Int) : List Value := l.map (Value.int .i64)
def strs (l : List ByteArray) : List Value := l.map Value.string
theorem length_u8s (l : List UInt8) : (u8s l).length = l.length := by simp [u8s]
theorem length_i64s (l : List Int) : (i64s l).length = l.length := by simp [i64s]
theorem length_strs (l : List ByteArray) : (strs l).length = l.length := by simp [strs]

theorem u8s_one (l : List UInt8) : ∀ u ∈ u8s l, u.oneCell' = true := by intro u hu; simp only [u8s, List.mem_map] at hu; obtain ⟨x, _, rfl⟩ := hu; rfl
theorem i64s_one (l : List Int) : ∀ u ∈ i64s l, u.oneCell' = true := by intro u hu; simp only [i64s, List.mem_map] at hu; obtain ⟨x, _, rfl⟩ := hu; rfl
theorem strs_one (l : List ByteArray) : ∀ u ∈ strs l, u.oneCell' = true := by intro u hu; simp only [strs, List.mem_map] at hu; obtain ⟨x, _, rfl⟩ := hu; rfl

/-- What stands at an address, cell behind cell (nothing is said of the address where there is no cell). -/
def At (w : World) (ao : Option Addr) (xs : List Value) : Prop :=
  xs = [] ∨ ∃ b off, ao = some ⟨b, off, none⟩ ∧ ∀ i (h : i < xs.length), w.cell? ⟨b, off + i, none⟩ = some xs[i]

/-- The same, in a block from B on, and it may be written. -/
def Mine (B : Nat) (w : World) (ao : Option Addr) (xs : List Value) : Prop :=
  xs = [] ∨ ∃ b off, ao = some ⟨b, off, none⟩ ∧ B ≤ b ∧ ∀ i (h : i < xs.length), w.cell? ⟨b, off + i, none⟩ = some xs[i] ∧ w.frozen? ⟨b, off + i, none⟩ = false

theorem Mine.at {B : Nat} {w : World} {ao : Option Addr} {xs : List Value} (h : Mine B w ao xs) : At w ao xs := by
  rcases h with h | ⟨b, off, e, _, h⟩
  · exact .inl h
  · exact .inr ⟨b, off, e, fun i hi => (h i hi).1⟩

theorem At.below {C : Nat} {w w' : World} {ao : Option Addr} {xs : List Value} (h : At w ao xs) (hb : Below C w w') (hC : w.heap.size ≤ C) : At w' ao xs := by
  rcases h with h | ⟨b, off, e, h⟩
  · exact .inl h
  · refine .inr ⟨b, off, e, fun i hi => ?_⟩
    have hlt : b < w.heap.size := World.block_lt_of_cell? w _ (h i hi)
    rw [hb.cell (p := ⟨b, off + i, none⟩) (by exact Nat.lt_of_lt_of_le hlt hC)]
    exact h i hi

theorem Mine.below {B C : Nat} {w w' : World} {ao : Option Addr} {xs : List Value} (h : Mine B w ao xs) (hb : Below C w w') (hC : w.heap.size ≤ C) : Mine B w' ao xs := by
  rcases h with h | ⟨b, off, e, hB, h⟩
  · exact .inl h
  · refine .inr ⟨b, off, e, hB, fun i hi => ?_⟩
    have hlt : b < w.heap.size := World.block_lt_of_cell? w _ (h i hi).1
    rw [hb.cell (p := ⟨b, off + i, none⟩) (by exact Nat.lt_of_lt_of_le hlt hC), hb.frozen (p := ⟨b, off + i, none⟩) (by exact Nat.lt_of_lt_of_le hlt hC)]
    exact h i hi

theorem Mine.mono {B B' : Nat} {w : World} {ao : Option Addr} {xs : List Value} (h : Mine B w ao xs) (hB : B' ≤ B) : Mine B' w ao xs := by
  rcases h with h | ⟨b, off, e, hb, h⟩
  · exact .inl h
  · exact .inr ⟨b, off, e, Nat.le_trans hB hb, h⟩

theorem At.get {w : World} {ao : Option Addr} {xs : List Value} (h : At w ao xs) (hne : xs ≠ []) : ∃ b off, ao = some ⟨b, off, none⟩ ∧ ∀ i (h : i < xs.length), w.cell? ⟨b, off + i, none⟩ = some xs[i] := h.resolve_left hne

theorem Mine.get {B : Nat} {w : World} {ao : Option Addr} {xs : List Value} (h : Mine B w ao xs) (hne : xs ≠ []) : ∃ b off, ao = some ⟨b, off, none⟩ ∧ B ≤ b ∧ ∀ i (h : i < xs.length), w.cell? ⟨b, off + i, none⟩ = some xs[i] ∧ w.frozen? ⟨b, off + i, none⟩ = false := h.resolve_left hne

/-- what a slice of the call's own owns, behind an append or a make -/
theorem mine_of_owns {base : Nat} {w : World} {e : TypeId} {size : Nat} {v : Value} {n : Nat} {xs : List Value} (h : w.ownsRow base e size v n xs) :
    ∃ ao cap, v = .slice ao n cap ∧ Mine base w ao xs := by
  obtain ⟨hl, h⟩ := h
  rcases h with ⟨rfl, rfl⟩ | ⟨g, cap, cur, rfl, hg, hh, hn, _, hs, ht⟩
  · exact ⟨none, 0, rfl, .inl (List.length_eq_zero_iff.1 (by simpa using hl))⟩
  · refine ⟨_, cap, rfl, .inr ⟨g, 0, rfl, hg, fun i hi => ?_⟩⟩
    constructor
    · have : w.cell? ⟨g, 0 + i, none⟩ = cur[i]? := by simp [World.cell?, hh]
      rw [this]
      subst ht
      have hi' : i < cur.size := by have := hi; rw [List.length_take] at this; simp at this; omega
      rw [List.getElem_take, Array.getElem_toList]
      exact Array.getElem?_eq_getElem hi'
    · simp [World.frozen?, hh]

theorem own_at {base : Nat} {w : World} {e : TypeId} {size : Nat} {ao : Option Addr} {n cap : Nat} {xs : List Value} {m : Nat} (h : w.ownsRow base e size (.slice ao m cap) n xs) : Mine base w ao xs := by
  obtain ⟨ao', cap', he, hm⟩ := mine_of_owns h
  simp only [Value.slice.injEq] at he
  obtain ⟨rfl, _, _⟩ := he
  exact hm

/-- what stands in a block known whole -/
theorem at_block {w : World} {b : Nat} {cs : Array Value} {t : TypeId} {fr : Nat × Nat} (h : w.heap[b]? = some (.cells cs t fr)) : At w (some ⟨b, 0, none⟩) cs.toList := by
  refine .inr ⟨b, 0, rfl, fun i hi => ?_⟩
  have : w.cell? ⟨b, 0 + i, none⟩ = cs[i]? := by simp [World.cell?, h]
  rw [this]
  have hi' : i < cs.size := by simpa using hi
  rw [Array.getElem_toList]
  exact Array.getElem?_eq_getElem hi'
theorem at_new (w : World) (cs : Array Value) (t : TypeId) (fr : Nat × Nat) : At (w.alloc (.cells cs t fr)) (some ⟨w.heap.size, 0, none⟩) cs.toList := at_block (heap_alloc_new w _)

theorem vars_one {H : Type} {enc : TypeId × Value → H} {P : Program} {w : World} {sp : Nat → Bool} {n : String} {gs : List (DataW H)} {ps : List MemPlace} (h : DataW.TrodVars enc P w sp [n] gs ps) : ∃ g, gs = [g] := by
  match gs, h with
  | [g], _ => exact ⟨g, rfl⟩
  | [], h => exact h.elim
  | _ :: _ :: _, h => obtain ⟨_, _, _, _, _, _, _, _, _, _, h, _⟩ := h; exact h.elim
theorem vars_two {H : Type} {enc : TypeId × Value → H} {P : Program} {w : World} {sp : Nat → Bool} {n m : String} {gs : List (DataW H)} {ps : List MemPlace} (h : DataW.TrodVars enc P w sp [n, m] gs ps) : ∃ g g', gs = [g, g'] := by
  match gs, h with
  | [], h => exact h.elim
  | g :: gs, h =>
    obtain ⟨_, _, _, _, _, _, _, _, _, _, h, _⟩ := h
    obtain ⟨g', rfl⟩ := vars_one h
    exact ⟨g, g', rfl⟩

theorem ret_two {a b c d : Value} (h : a = c) (h' : b = d) : Ending.returned (.tuple #[a, b]) = .returned (.tuple #[c, d]) := by rw [h, h']

theorem u8s_append (a b : List UInt8) : u8s (a ++ b) = u8s a ++ u8s b := by simp [u8s]

/-- 'string(b)' -/
theorem conv_at {P : Program} {w : World} {ao : Option Addr} {l : List UInt8} (src dst e : TypeId) (n cap : Nat) (hs : P.underlying src = some (.slice e)) (he : P.underlying e = some (.int .u8)) (hd : P.underlying dst = some .string)
    (h : At w ao (u8s l)) (hl : l.length = n) : (convert src dst (.slice ao n cap)).run P w = .ok (.string ⟨l.toArray⟩) w := by
  subst hl
  rcases h with h | ⟨b, off, rfl, h⟩
  · have hl0 : l = [] := by simpa [u8s] using h
    subst hl0
    cases ao with
    | none => rw [run_convert_bytes_string w src dst e none _ cap hs he hd]; simp [Conv.bytesToString]; rfl
    | some a => exact run_convert_bytes_back w src dst e a cap [] hs he hd (fun j hj => by simp at hj)
  · refine run_convert_bytes_back w src dst e ⟨b, off, none⟩ cap l hs he hd (fun j hj => ?_)
    have hadd : (⟨b, off, none⟩ : Addr).add j = ⟨b, off + j, none⟩ := by unfold Addr.add; split <;> simp_all
    rw [hadd, h j (by simpa [u8s] using hj)]
    simp [u8s]

/-- '[]byte(s)': a new block that holds the bytes and may be written -/
theorem mine_bytesRow {B : Nat} (w : World) (s : ByteArray) (cap : Nat) (e : TypeId) (hB : B ≤ w.heap.size) :
    Mine B (w.alloc (.cells (bytesRow s cap) e ((bytesRow s cap).size, (bytesRow s cap).size + 1))) (some ⟨w.heap.size, 0, none⟩) (u8s s.data.toList) := by
  refine .inr ⟨w.heap.size, 0, rfl, hB, fun i hi => ?_⟩
  have hi' : i < s.data.size := by simpa [u8s] using hi
  rw [Nat.zero_add, World.cell?_alloc_mark, World.frozen?_alloc_mark, bytesRow_at s cap i hi']
  refine ⟨by simp [u8s], ?_⟩
  have hsz : s.data.size ≤ (bytesRow s cap).size := by simp [bytesRow]
  simp; omega

/-- an argument's cells, as the guide opens them -/
theorem bytes_of_cells {W : World} {x : Addr} {len cap : Nat} {zs : List Int} (hl : len ≤ cap) (hm : cap ≤ maxLen) (hz : zs.length = cap)
    (hcell : ∀ i, i < zs.length → W.cell? (x.add i) = some (.int .u8 (zs.getD i 0))) (hwz : ∀ n ∈ zs, (Lit.int .u8 n).wf = true) :
    ∃ l, At W (some x) (u8s l) ∧ l.length = len ∧ len ≤ maxLen := by
  refine ⟨(zs.take len).map fun n => UInt8.ofNat n.toNat, ?_, by simp; omega, by omega⟩
  by_cases h0 : len = 0
  · left; subst h0; simp [u8s]
  · obtain ⟨b, off, spot⟩ := x
    have hc := hcell 0 (by omega)
    have hspot : spot = none := by simpa [Addr.add] using World.cell?_spot hc
    subst hspot
    refine .inr ⟨b, off, rfl, fun i hi => ?_⟩
    have hi' : i < len := by have := hi; simp [u8s] at this; omega
    have hcc := hcell i (by omega)
    have hadd : (⟨b, off, none⟩ : Addr).add i = ⟨b, off + i, none⟩ := by unfold Addr.add; split <;> simp_all
    rw [hadd] at hcc
    rw [hcc]
    have hw := hwz zs[i] (List.getElem_mem (by omega))
    simp [Lit.wf, IntKind.min, IntKind.max, IntKind.signed, IntKind.bits] at hw
    have hg : zs.getD i 0 = zs[i] := by simp [List.getD, List.getElem?_eq_getElem (show i < zs.length by omega)]
    rw [hg]
    simp [u8s]
    omega

theorem ints_of_cells {W : World} {x : Addr} {len cap : Nat} {zs : List Int} (hl : len ≤ cap) (hm : cap ≤ maxLen) (hz : zs.length = cap)
    (hcell : ∀ i, i < zs.length → W.cell? (x.add i) = some (.int .i64 (zs.getD i 0))) (hwz : ∀ n ∈ zs, (Lit.int .i64 n).wf = true) :
    ∃ l, At W (some x) (i64s l) ∧ l.length = len ∧ len ≤ maxLen ∧ ∀ n ∈ l, (Lit.int .i64 n).wf = true := by
  refine ⟨zs.take len, ?_, by simp; omega, by omega, fun n hn => hwz n (List.mem_of_mem_take hn)⟩
  by_cases h0 : len = 0
  · left; subst h0; simp [i64s]
  · obtain ⟨b, off, spot⟩ := x
    have hc := hcell 0 (by omega)
    have hspot : spot = none := by simpa [Addr.add] using World.cell?_spot hc
    subst hspot
    refine .inr ⟨b, off, rfl, fun i hi => ?_⟩
    have hi' : i < len := by have := hi; simp [i64s] at this; omega
    have hcc := hcell i (by omega)
    have hadd : (⟨b, off, none⟩ : Addr).add i = ⟨b, off + i, none⟩ := by unfold Addr.add; split <;> simp_all
    rw [hadd] at hcc
    rw [hcc]
    have hg : zs.getD i 0 = zs[i] := by simp [List.getD, List.getElem?_eq_getElem (show i < zs.length by omega)]
    rw [hg]
    simp [i64s]

theorem strs_of_cells {W : World} {x : Addr} {len cap : Nat} {zs : List ByteArray} (hl : len ≤ cap) (hm : cap ≤ maxLen) (hz : zs.length = cap)
    (hcell : ∀ i, i < zs.length → W.cell? (x.add i) = some (.string (zs.getD i ByteArray.empty))) (hwz : ∀ s ∈ zs, s.size ≤ maxLen) :
    ∃ l, At W (some x) (strs l) ∧ l.length = len ∧ len ≤ maxLen ∧ ∀ s ∈ l, s.size ≤ maxLen := by
  refine ⟨zs.take len, ?_, by simp; omega, by omega, fun n hn => hwz n (List.mem_of_mem_take hn)⟩
  by_cases h0 : len = 0
  · left; subst h0; simp [strs]
  · obtain ⟨b, off, spot⟩ := x
    have hc := hcell 0 (by omega)
    have hspot : spot = none := by simpa [Addr.add] using World.cell?_spot hc
    subst hspot
    refine .inr ⟨b, off, rfl, fun i hi => ?_⟩
    have hi' : i < len := by have := hi; simp [strs] at this; omega
    have hcc := hcell i (by omega)
    have hadd : (⟨b, off, none⟩ : Addr).add i = ⟨b, off + i, none⟩ := by unfold Addr.add; split <;> simp_all
    rw [hadd] at hcc
    rw [hcc]
    have hg : zs.getD i ByteArray.empty = zs[i] := by simp [List.getD, List.getElem?_eq_getElem (show i < zs.length by omega)]
    rw [hg]
    simp [strs]
/-- the place of the first that has a property, from a place on; -1 if none has -/
def idxFrom {α : Type} (p : α → Bool) : Nat → List α → Int
  | _, [] => -1
  | k, x :: l => if p x then (k : Int) else idxFrom p (k + 1) l
theorem idxFrom_none {α : Type} (p : α → Bool) (l : List α) : ∀ k, (∀ x ∈ l, p x = false) → idxFrom p k l = -1 := by
  induction l with
  | nil => intro k _; rfl
  | cons a l ih => intro k h; rw [idxFrom, if_neg (by rw [h a (by simp)]; simp), ih (k + 1) (fun x hx => h x (by simp [hx]))]
theorem idxFrom_at {α : Type} (p : α → Bool) (l : List α) : ∀ (k i : Nat) (h : i < l.length), (∀ j (hj : j < i), p (l[j]'(by omega)) = false) → p l[i] = true → idxFrom p k l = ((k + i : Nat) : Int) := by
  induction l with
  | nil => intro k i h; simp at h
  | cons a l ih =>
    intro k i h hn hp
    cases i with
    | zero => rw [idxFrom, if_pos (by simpa using hp)]; rfl
    | succ i =>
      rw [idxFrom, if_neg (by have := hn 0 (by omega); simp at this; simp [this]), ih (k + 1) i (by simpa using h) (fun j hj => by have := hn (j + 1) (by omega); simpa using this) (by simpa using hp)]
      omega
theorem idxFrom_any {α : Type} (p : α → Bool) (l : List α) : ∀ k, decide (0 ≤ idxFrom p k l) = l.any p := by
  induction l with
  | nil => intro k; rfl
  | cons a l ih =>
    intro k
    rw [idxFrom]
    by_cases h : p a = true
    · rw [if_pos h]; simp [h]
    · rw [if_neg h, ih]; simp [h]

end Go.Proofs.YtfpbboldfilhlaaDoor
