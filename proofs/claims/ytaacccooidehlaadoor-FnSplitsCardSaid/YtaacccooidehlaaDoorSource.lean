/-
  Contracts of the source of choices (spec.l00Src): byte, next. What they yield is told by bounds only. Conditions: the source stands in a block of its own.
-/
import Derived.Test.YtaacccooidehlaaDoorSlices
import Derived.Lib.Builder
import Derived.Laws.Rows
import Derived.BigQuiet
import Derived.StillTailTactics
import Derived.BigRegion
import Derived.Deep.RegionHeld3
import Derived.Deep.AppendLies
namespace Go.Proofs.YtaacccooidehlaaDoor
open Go.ChangeShapes Go.WideShapes Go.ChangeAt Go.RowKit
set_option linter.unusedVariables false

/-- a source at block b: the code l, how far it is read, some seed -/
def Src (w : World) (b : Nat) (a : Option Addr) (cap : Nat) (l : List UInt8) (p : Nat) : Prop :=
  ∃ sd : Nat, sd < 2147483648 ∧ w.heap[b]? = some (.cells #[.slice a l.length cap, .int .i64 p, .int .i64 sd] 59 (0, 0)) ∧ At w a (u8s l) ∧ (u8s l = [] ∨ ∀ x, a = some x → x.block ≠ b)

theorem gb_refl (w : World) (r : Option Nat) : w.grownBy w r := ⟨rfl, rfl, rfl, Nat.le_refl _, fun _ _ _ => rfl⟩
theorem gb_trans {a b c : World} {r : Option Nat} (h : a.grownBy b r) (k : b.grownBy c r) : a.grownBy c r :=
  ⟨k.os.trans h.os, k.tape.trans h.tape, k.output.trans h.output, Nat.le_trans h.size k.size, fun i hi hn => (k.block i (Nat.lt_of_lt_of_le hi h.size) hn).trans (h.block i hi hn)⟩
theorem gb_set (w : World) (b i : Nat) (v : Value) : w.grownBy (w.setCell ⟨b, i, none⟩ v) (some b) :=
  ⟨rfl, rfl, rfl, by simp, fun k _ hn => heap_setCell_other w ⟨b, i, none⟩ k v (fun e => hn (by rw [e]))⟩
theorem gb_drew (w : World) (r : Option Nat) : w.grownBy w.drew r := ⟨rfl, rfl, rfl, Nat.le_refl _, fun _ _ _ => rfl⟩
theorem at_grown {w w' : World} {b : Nat} {a : Option Addr} {xs : List Value} (h : At w a xs) (hn : xs = [] ∨ ∀ x, a = some x → x.block ≠ b) (hg : w.grownBy w' (some b)) : At w' a xs := by
  rcases h with h | ⟨b1, o1, rfl, hc⟩
  · exact .inl h
  · rcases hn with hn | hn
    · exact .inl hn
    · exact .inr ⟨b1, o1, rfl, fun i hi => hg.cell (hc i hi) (by have := hn _ rfl; simpa using this)⟩

set_option maxRecDepth 100000 in
theorem byte_any (w : World) (b : Nat) (a : Option Addr) (cap : Nat) (l : List UInt8) (p : Nat) (h : Src w b a cap l p) (hp : p ≤ 4611686018427387904) (hl : l.length ≤ 4611686018427387904) :
    Calls Tryd.prog 51 #[.pointer (some ⟨b, 0, none⟩)] w fun e w' => ∃ x : Nat, e = .returned (.int .i64 x) ∧ x < 256 ∧ Src w' b a cap l (p + 1) ∧ w.grownBy w' (some b) := by
  obtain ⟨sd, hsd, hh, hat, hne⟩ := h
  have c1 : w.cell? ⟨b, 1, none⟩ = some (.int .i64 p) := by rw [Lib.cell_of_heap hh]; rfl
  have f1 : w.frozen? ⟨b, 1, none⟩ = false := Lib.frozen_of_heap hh 1
  have H1 : Hid ((w.setCell ⟨b, 1, none⟩ (.int .i64 ((p : Int) + 1))).heap[b]? = some (.cells #[.slice a l.length cap, .int .i64 ((p + 1 : Nat) : Int), .int .i64 sd] 59 (0, 0))) := by
    show _ = _; rw [heap_setCell_same w b 1 _ _ _ hh]; rfl
  have G1 := gb_set w b 1 (.int .i64 ((p : Int) + 1))
  have A1 := at_grown hat hne G1
  clear hh hat
  go_enter Tryd.func51, Tryd.ntmps51
  go_wp2
  generalize w.setCell ⟨b, 1, none⟩ (Value.int .i64 ((p : Int) + 1)) = w1 at *
  have d0 : w1.cell? ⟨b, 0, none⟩ = some (.slice a l.length cap) := by rw [Lib.cell_of_heap H1.out]; rfl
  have d1 : w1.cell? ⟨b, 1, none⟩ = some (.int .i64 ((p : Int) + 1)) := by rw [Lib.cell_of_heap H1.out]; rfl
  have d2 : w1.cell? ⟨b, 2, none⟩ = some (.int .i64 (sd : Int)) := by rw [Lib.cell_of_heap H1.out]; rfl
  have f2 : w1.frozen? ⟨b, 2, none⟩ = false := Lib.frozen_of_heap H1.out 2
  have HG := Lib.hid G1
  clear c1 f1 G1
  have hwr : IntKind.i64.wrap ((p : Int) + 1 - 1) = (p : Int) := by rw [IntKind.wrap_i64]; omega
  by_cases hq : p < l.length
  · obtain ⟨b1, o1, rfl, hc⟩ := A1.get (u8s_ne hq)
    have dc : w1.cell? ⟨b1, o1 + p, none⟩ = some (.int .u8 (l[p].toNat : Int)) := by rw [hc p (by simpa [u8s] using hq), u8s_get _ _ _ hq]
    have hx : l[p].toNat < 256 := l[p].toNat_lt
    have HA := Lib.hid A1
    clear hc A1
    go_quiet (fail)
    go_wp2
    have HH : Hid ((w1.drewN nq).heap[b]? = some (.cells #[.slice (some ⟨b1, o1, none⟩) l.length cap, .int .i64 ((p + 1 : Nat) : Int), .int .i64 sd] 59 (0, 0))) := H1.out
    have d0' : (w1.drewN nq).cell? ⟨b, 0, none⟩ = some (.slice (some ⟨b1, o1, none⟩) l.length cap) := d0
    have d1' : (w1.drewN nq).cell? ⟨b, 1, none⟩ = some (.int .i64 ((p : Int) + 1)) := d1
    have d2' : (w1.drewN nq).cell? ⟨b, 2, none⟩ = some (.int .i64 (sd : Int)) := d2
    have f2' : (w1.drewN nq).frozen? ⟨b, 2, none⟩ = false := f2
    have dc' : (w1.drewN nq).cell? ⟨b1, o1 + p, none⟩ = some (.int .u8 (l[p].toNat : Int)) := dc
    have HG' : Hid (w.grownBy (w1.drewN nq) (some b)) := gb_trans HG.out ⟨rfl, rfl, rfl, Nat.le_refl _, fun _ _ _ => rfl⟩
    have HA' : Hid (At (w1.drewN nq) (some ⟨b1, o1, none⟩) (u8s l)) := HA.out
    generalize w1.drewN nq = w2 at *
    clear d0 d1 d2 f2 dc HG HA H1
    have v1 : IntKind.i64.wrap (p : Int) = (p : Int) := by rw [IntKind.wrap_i64]; omega
    have v2 : IntKind.i64.wrap ((sd : Int) * 31) = (sd : Int) * 31 := by rw [IntKind.wrap_i64]; omega
    have v3 : IntKind.i64.wrap (l[p].toNat : Int) = (l[p].toNat : Int) := by rw [IntKind.wrap_i64]; omega
    have v4 : IntKind.i64.wrap ((sd : Int) * 31 + (l[p].toNat : Int)) = (sd : Int) * 31 + (l[p].toNat : Int) := by rw [IntKind.wrap_i64]; omega
    have v5 : IntKind.i64.wrap ((sd : Int) * 31 + (l[p].toNat : Int) + 7) = (sd : Int) * 31 + (l[p].toNat : Int) + 7 := by rw [IntKind.wrap_i64]; omega
    have v6 : ((sd : Int) * 31 + (l[p].toNat : Int) + 7).tmod 2147483648 = ((sd : Int) * 31 + (l[p].toNat : Int) + 7) % 2147483648 := Int.tmod_eq_emod_of_nonneg (by omega)
    have v7 : IntKind.i64.wrap (((sd : Int) * 31 + (l[p].toNat : Int) + 7) % 2147483648) = ((sd : Int) * 31 + (l[p].toNat : Int) + 7) % 2147483648 := by rw [IntKind.wrap_i64]; omega
    have i1 : (0 : Int) ≤ (p : Int) := by omega
    have i2 : (p : Int) < (l.length : Int) := by omega
    go_still_tail 23, (by kernel_rfl)
    change wpList _ _ _ _ _ w2.drew
    clear v1 v2 v3 v4 v5 v6 v7 hwr
    have H3 : Hid (w2.drew.heap[b]? = some (.cells #[.slice (some ⟨b1, o1, none⟩) l.length cap, .int .i64 ((p + 1 : Nat) : Int), .int .i64 sd] 59 (0, 0))) := HH.out
    have e2 : w2.drew.cell? ⟨b, 2, none⟩ = some (.int .i64 (sd : Int)) := d2'
    have f3 : w2.drew.frozen? ⟨b, 2, none⟩ = false := f2'
    have HG3 : Hid (w.grownBy w2.drew (some b)) := gb_trans HG'.out (gb_drew _ _)
    have HA3 : Hid (At w2.drew (some ⟨b1, o1, none⟩) (u8s l)) := HA'.out
    have ec : w2.drew.cell? ⟨b1, o1 + p, none⟩ = some (.int .u8 (l[p].toNat : Int)) := dc'
    generalize w2.drew = w3 at *
    clear HH d0' d1' d2' f2' dc' HG' HA'
    have H4 : Hid ((w3.setCell ⟨b, 2, none⟩ (.int .i64 (((sd : Int) * 31 + (l[p].toNat : Int) + 7) % 2147483648))).heap[b]? = some (.cells #[.slice (some ⟨b1, o1, none⟩) l.length cap, .int .i64 ((p + 1 : Nat) : Int), .int .i64 (((sd * 31 + l[p].toNat + 7) % 2147483648 : Nat) : Int)] 59 (0, 0))) := by
      show _ = _; rw [heap_setCell_same w3 b 2 _ _ _ H3.out]; simp
    have G4 : Hid (w.grownBy (w3.setCell ⟨b, 2, none⟩ (.int .i64 (((sd : Int) * 31 + (l[p].toNat : Int) + 7) % 2147483648))) (some b)) := gb_trans HG3.out (gb_set _ _ _ _)
    have A4 : Hid (At (w3.setCell ⟨b, 2, none⟩ (.int .i64 (((sd : Int) * 31 + (l[p].toNat : Int) + 7) % 2147483648))) (some ⟨b1, o1, none⟩) (u8s l)) := at_grown HA3.out hne (gb_set _ _ _ _)
    have ec4 : (w3.setCell ⟨b, 2, none⟩ (.int .i64 (((sd : Int) * 31 + (l[p].toNat : Int) + 7) % 2147483648))).cell? ⟨b1, o1 + p, none⟩ = some (.int .u8 (l[p].toNat : Int)) := (gb_set w3 b 2 _).cell ec (by have := hne.resolve_left (u8s_ne hq) _ rfl; simpa using this)
    clear H3 HG3 HA3 ec
    go_wp2
    generalize w3.setCell ⟨b, 2, none⟩ (.int .i64 (((sd : Int) * 31 + (l[p].toNat : Int) + 7) % 2147483648)) = w4 at *
    clear e2 f3
    have k0 : w4.cell? ⟨b, 0, none⟩ = some (.slice (some ⟨b1, o1, none⟩) l.length cap) := by rw [Lib.cell_of_heap H4.out]; rfl
    have k1 : w4.cell? ⟨b, 1, none⟩ = some (.int .i64 ((p : Int) + 1)) := by rw [Lib.cell_of_heap H4.out]; rfl
    have v1 : IntKind.i64.wrap (p : Int) = (p : Int) := by rw [IntKind.wrap_i64]; omega
    have v3 : IntKind.i64.wrap (l[p].toNat : Int) = (l[p].toNat : Int) := by rw [IntKind.wrap_i64]; omega
    go_quiet (fail)
    go_wp2
    go_ret
    exact ⟨l[p].toNat, rfl, hx, ⟨_, Nat.mod_lt _ (by decide), H4.out, A4.out, hne⟩, gb_trans G4.out ⟨rfl, rfl, rfl, Nat.le_refl _, fun _ _ _ => rfl⟩⟩
  · have HA := Lib.hid A1
    clear A1 hwr
    by_cases h3 : 3000 < p + 1
    · go_quiet (fail)
      go_wp2
      go_ret
      exact ⟨0, rfl, by decide, ⟨sd, hsd, H1.out, HA.out, hne⟩, gb_trans HG.out ⟨rfl, rfl, rfl, Nat.le_refl _, fun _ _ _ => rfl⟩⟩
    · go_quiet (fail)
      have HH : Hid ((w1.drewN nq).heap[b]? = some (.cells #[.slice a l.length cap, .int .i64 ((p + 1 : Nat) : Int), .int .i64 sd] 59 (0, 0))) := H1.out
      have d1' : (w1.drewN nq).cell? ⟨b, 1, none⟩ = some (.int .i64 ((p : Int) + 1)) := d1
      have d2' : (w1.drewN nq).cell? ⟨b, 2, none⟩ = some (.int .i64 (sd : Int)) := d2
      have f2' : (w1.drewN nq).frozen? ⟨b, 2, none⟩ = false := f2
      have HG' : Hid (w.grownBy (w1.drewN nq) (some b)) := gb_trans HG.out ⟨rfl, rfl, rfl, Nat.le_refl _, fun _ _ _ => rfl⟩
      have HA' : Hid (At (w1.drewN nq) a (u8s l)) := HA.out
      generalize w1.drewN nq = w3 at *
      clear d0 d1 d2 f2 HG HA H1
      have H4 : Hid ((w3.setCell ⟨b, 2, none⟩ (.int .i64 (((sd : Int) * 1103515245 + 12345) % 2147483648))).heap[b]? = some (.cells #[.slice a l.length cap, .int .i64 ((p + 1 : Nat) : Int), .int .i64 (((sd * 1103515245 + 12345) % 2147483648 : Nat) : Int)] 59 (0, 0))) := by
        show _ = _; rw [heap_setCell_same w3 b 2 _ _ _ HH.out]; simp
      have G4 : Hid (w.grownBy (w3.setCell ⟨b, 2, none⟩ (.int .i64 (((sd : Int) * 1103515245 + 12345) % 2147483648))) (some b)) := gb_trans HG'.out (gb_set _ _ _ _)
      have A4 : Hid (At (w3.setCell ⟨b, 2, none⟩ (.int .i64 (((sd : Int) * 1103515245 + 12345) % 2147483648))) a (u8s l)) := at_grown HA'.out hne (gb_set _ _ _ _)
      clear HG' HA'
      go_wp2
      go_ret
      exact ⟨(sd * 1103515245 + 12345) % 2147483648 / 65536 % 256, by simp, by omega, ⟨_, Nat.mod_lt _ (by decide), H4.out, A4.out, hne⟩, G4.out⟩

theorem next_any (w : World) (b : Nat) (a : Option Addr) (cap : Nat) (l : List UInt8) (p n : Nat) (h : Src w b a cap l p) (hp : p ≤ 2305843009213693952) (hl : l.length ≤ 4611686018427387904) (hn : n ≤ 4611686018427387904) :
    Calls Tryd.prog 28 #[.pointer (some ⟨b, 0, none⟩), .int .i64 n] w fun e w' => ∃ x q : Nat, e = .returned (.int .i64 x) ∧ (x < n ∨ x = 0) ∧ q ≤ p + 3 ∧ Src w' b a cap l q ∧ w.grownBy w' (some b) := by
  have HS := Lib.hid h
  clear h
  by_cases h1 : n ≤ 1
  · go_enter Tryd.func28, Tryd.ntmps28
    go_wp2
    go_ret
    exact ⟨0, p, rfl, .inr rfl, by omega, HS.out, gb_refl _ _⟩
  have hn0 : (0 : Int) < (n : Int) := by omega
  by_cases h2 : n ≤ 256
  · go_enter Tryd.func28, Tryd.ntmps28
    go_wp2_with fail
    refine (byte_any w b a cap l p HS.out (by omega) hl).mono ?_
    rintro e w1 ⟨x, rfl, hx, hs1, hg1⟩
    have H1 := Lib.hid hs1
    have G1 := Lib.hid hg1
    clear hs1 hg1
    go_wp2_with fail
    go_ret
    exact ⟨x % n, p + 1, by simp, .inl (Nat.mod_lt _ (by omega)), by omega, H1.out, G1.out⟩
  · go_enter Tryd.func28, Tryd.ntmps28
    go_wp2_with fail
    refine (byte_any w b a cap l p HS.out (by omega) hl).mono ?_
    rintro e w1 ⟨x, rfl, hx, hs1, hg1⟩
    have H1 := Lib.hid hs1
    have G1 := Lib.hid hg1
    clear hs1 hg1
    go_wp2_with fail
    refine (byte_any w1 b a cap l (p + 1) H1.out (by omega) hl).mono ?_
    rintro e w2 ⟨y, rfl, hy, hs2, hg2⟩
    have H2 := Lib.hid hs2
    have G2 := Lib.hid (gb_trans G1.out hg2)
    clear hs2 hg2
    go_wp2_with fail
    refine (byte_any w2 b a cap l (p + 1 + 1) H2.out (by omega) hl).mono ?_
    rintro e w3 ⟨z, rfl, hz, hs3, hg3⟩
    have H3 := Lib.hid hs3
    have G3 := Lib.hid (gb_trans G2.out hg3)
    clear hs3 hg3
    go_wp2_with fail
    go_ret
    exact ⟨(x * 65536 + y * 256 + z) % n, p + 1 + 1 + 1, by simp, .inl (Nat.mod_lt _ (by omega)), by omega, H3.out, G3.out⟩

def someTexts : List ByteArray := [⟨#[]⟩, ⟨#[97]⟩, ⟨#[116, 101, 120, 116]⟩, ⟨#[0, 1]⟩]

theorem src_alloc {w : World} {b : Nat} {a : Option Addr} {cap : Nat} {l : List UInt8} {p : Nat} (h : Src w b a cap l p) (hb : b < w.heap.size) (o : Obj) : Src (w.alloc o) b a cap l p := by
  obtain ⟨sd, hsd, hh, hat, hne⟩ := h
  have hB : Below w.heap.size w (w.alloc o) := (Below.refl _ _).alloc (Nat.le_refl _) _
  exact ⟨sd, hsd, by rw [hB.block b hb]; exact hh, hat.below hB (Nat.le_refl _), hne⟩
theorem at_texts (w : World) : At (w.alloc (.cells #[.string ⟨#[]⟩, .string ⟨#[97]⟩, .string ⟨#[116, 101, 120, 116]⟩, .string ⟨#[0, 1]⟩] 9)) (some ⟨w.heap.size, 0, none⟩) (strs someTexts) := by
  refine .inr ⟨w.heap.size, 0, rfl, fun i hi => ?_⟩
  rw [Nat.zero_add, Lib.cell_of_heap (heap_alloc_new w _)]
  have : i < 4 := hi
  match i, this with
  | 0, _ => rfl
  | 1, _ => rfl
  | 2, _ => rfl
  | 3, _ => rfl

theorem source_any (w : World) (a : Option Addr) (len cap : Nat) :
    Calls Tryd.prog 13 #[.slice a len cap] w fun e w' => e = .returned (.pointer (some ⟨w.heap.size, 0, none⟩)) ∧ w' = w.alloc (.cells #[.slice a len cap, .int .i64 0, .int .i64 ((len : Int) % 1000)] 59) := by
  go_enter Tryd.func13, Tryd.ntmps13
  go_wp2
  go_ret
  exact ⟨rfl, rfl⟩

end Go.Proofs.YtaacccooidehlaaDoor
