/-
  Contracts of Hash of the given program and of its reference, and the walk of the law FnExactHash. Conditions: the tables of the start and of the rounds stand.
-/
import Derived.Test.YtfkpdinfoagfhaaDoorSha5
import Derived.Test.YtfkpdinfoagfhaaDoorLong
namespace Go.Proofs.YtfkpdinfoagfhaaDoor
open Go.ChangeShapes Go.WideShapes Go.ChangeAt Go.RowKit
set_option linter.unusedVariables false

/-- both tables stand -/
structure Tabs (w : World) : Prop where
  rnd : Rnd w
  start : Start w
theorem Tabs.gR {w : World} (h : Tabs w) : 1 < w.heap.size := World.block_lt_of_cell? w _ (h.rnd 0 (by decide))
theorem Tabs.gS {w : World} (h : Tabs w) : 0 < w.heap.size := World.block_lt_of_cell? w _ (h.start 0 (by decide))
theorem Tabs.below {w w' : World} (h : Tabs w) (hb : Below w.heap.size w w') : Tabs w' := ⟨h.rnd.below hb h.gR, h.start.below hb h.gS⟩
theorem Tabs.hash {w : World} (h : Tabs w) (s : ByteArray) (hs : s.size ≤ 1000000000) :
    Calls Tryd.prog 23 #[.string s] w fun e w' => e = .returned (.string ⟨(sha s.data.toList).toArray⟩) ∧ Below w.heap.size w w' := hash_any s w hs h.rnd h.start h.gR h.gS

def hashR (l : List UInt8) : ByteArray := if 65536 < l.length then ⟨#[]⟩ else ⟨(sha l).toArray⟩

theorem specHash_any (ao : Option Addr) (len cap : Nat) (l : List UInt8) (w : World) (ha : At w ao (u8s l)) (hl : l.length = len) (hs : len ≤ maxLen) :
    Calls Tryd.prog 8 #[.slice ao len cap] w fun e w' => e = .returned (.string (hashR l)) ∧ Below w.heap.size w w' := by
  unfold maxLen at hs
  by_cases hd : 65536 < len
  · have H : Hid (hashR l = ⟨#[]⟩) := if_pos (by rw [hl]; exact hd)
    clear hl
    go_enter Tryd.func8, Tryd.ntmps8
    go_wp2
    go_ret
    exact ⟨by rw [H.out]; rfl, Below.refl _ _⟩
  · have H : Hid (hashR l = ⟨(sha l).toArray⟩) := if_neg (by rw [hl]; exact hd)
    have HC := Lib.hid (l01Hash_any ao len cap l w hl ha (by omega))
    clear hl
    go_enter Tryd.func8, Tryd.ntmps8
    go_wp2_with fail
    refine HC.out.mono ?_
    rintro e w1 ⟨rfl, hb⟩
    go_wp2
    go_ret
    exact ⟨by rw [H.out]; rfl, hb⟩

theorem implHash_any (ao : Option Addr) (len cap : Nat) (l : List UInt8) (w : World) (ha : At w ao (u8s l)) (hl : l.length = len) (hs : len ≤ maxLen) (hT : Tabs w) :
    Calls Tryd.prog 10 #[.slice ao len cap] w fun e w' => e = .returned (.string (hashR l)) ∧ Below w.heap.size w w' := by
  unfold maxLen at hs
  have hbw : Below w.heap.size w (w.alloc (.cells #[.int .i64 len] 3)) := (Below.refl _ _).alloc (Nat.le_refl _) _
  have HI := Lib.hid (isLong_any (some ⟨w.heap.size, 0, none⟩) 1 1 [(len : Int)] (w.alloc (.cells #[.int .i64 len] 3)) (at_new _ _ _ _) rfl (by decide))
  have HT := Lib.hid hT
  by_cases hd : 65536 < len
  · have H : Hid (hashR l = ⟨#[]⟩) := if_pos (by rw [hl]; exact hd)
    have h2 : ([(len : Int)].any fun x => decide (65536 < x)) = true := by simp; omega
    clear hl hT
    go_enter Tryd.func10, Tryd.ntmps10
    go_wp2_with (go_at_call 22; refine HI.out.mono ?_; rw [h2]; rintro e w' ⟨rfl, rfl⟩)
    go_ret
    exact ⟨by rw [H.out]; rfl, hbw⟩
  · have H : Hid (hashR l = ⟨(sha l).toArray⟩) := if_neg (by rw [hl]; exact hd)
    have h2 : ([(len : Int)].any fun x => decide (65536 < x)) = false := by simp; omega
    have hcv := conv_at (P := Tryd.prog) 22 9 5 len cap Tryd.underlying22 Tryd.underlying5 Tryd.underlying9 (ha.below hbw (Nat.le_refl _)) hl
    have HC := Lib.hid ((hT.below hbw).hash ⟨l.toArray⟩ (by show l.toArray.size ≤ _; simp; omega))
    clear hl hT
    go_enter Tryd.func10, Tryd.ntmps10
    go_wp2_with (first | (go_at_call 22; refine HI.out.mono ?_; rw [h2]; rintro e w' ⟨rfl, rfl⟩) | (go_at_call 23; refine HC.out.mono ?_; rintro e w' ⟨rfl, hb⟩))
    go_ret
    exact ⟨by rw [H.out]; rfl, hbw.trans (Below.mono ‹_› (by simp))⟩
end Go.Proofs.YtfkpdinfoagfhaaDoor
