/-
  Contracts of 'within' of the given program and of its reference's. No condition.
-/
import Derived.Test.YtfpbboldfilhlaaDoorBase
import Derived.Deep.QuietTactic
namespace Go.Proofs.YtfpbboldfilhlaaDoor
open Go.ChangeShapes Go.WideShapes Go.ChangeAt Go.RowKit
set_option linter.unusedVariables false

theorem within_any (n lo hi : Int) (w : World) :
    Calls Tryd.prog 17 #[.int .i64 n, .int .i64 lo, .int .i64 hi] w fun e w' => e = .returned (.bool (decide (lo ≤ n) && decide (n ≤ hi))) ∧ w = w' := by
  go_enter Tryd.func17, Tryd.ntmps17
  go_wp2
  all_goals go_ret
  all_goals exact ⟨ret_bool (by rw [Bool.eq_iff_iff]; simp; omega), rfl⟩
theorem size_list (s : ByteArray) : s.data.toList.length = s.size := by rw [Array.length_toList]; rfl
def emptyB (s : ByteArray) : Bool := s.toList.isEmpty
theorem emptyB_eq (s : ByteArray) : emptyB s = decide (s.size = 0) := by
  unfold emptyB
  rw [ByteArray.toList_eq, ← size_list]
  cases s.data.toList <;> simp
/-- '[]byte(s)', the new slice's capacity and block behind letters -/
theorem bytes_conv {P : Program} (src dst e : TypeId) (s : ByteArray) (m : Nat) (hm : s.size = m) (hs : P.underlying src = some .string) (hd : P.underlying dst = some (.slice e)) (he : P.underlying e = some (.int .u8)) :
    ∃ (cp : World → Nat) (ob : World → Obj), (∀ wx, (convert src dst (.string s)).run P wx = .ok (.slice (some ⟨wx.heap.size, 0, none⟩) m (cp wx)) (wx.drew.alloc (ob wx))) ∧
      Hid (∀ (wx : World) (B : Nat), B ≤ wx.heap.size → Mine B (wx.drew.alloc (ob wx)) (some ⟨wx.heap.size, 0, none⟩) (u8s s.data.toList)) := by
  subst hm
  refine ⟨fun (wx : World) => grownCap wx s.size 0 e, fun (wx : World) => .cells (bytesRow s (grownCap wx s.size 0 e)) e ((bytesRow s (grownCap wx s.size 0 e)).size, (bytesRow s (grownCap wx s.size 0 e)).size + 1), fun wx => run_bytes_of_string wx src dst e s hs hd he, fun (wx : World) B hB => mine_bytesRow wx.drew s _ e hB⟩
theorem run_slice_nat {P : Program} (t : TypeId) (hu : P.underlying t = some .string) (s : ByteArray) (a b : Nat) (i j : Int) (hi : i = (a : Int)) (hj : j = (b : Int)) (h1 : a ≤ b) (h2 : b ≤ s.size) (wx : World) :
    (Instr.slice t (.string s) (some (.int .i64 i)) (some (.int .i64 j)) none).run P wx = .ok (.string (s.extract a b)) wx := by
  subst hi hj
  exact run_slice_string wx t s .i64 .i64 (a : Int) (b : Int) hu (by omega) (by omega) (by omega)
/-- a block known whole: kept where nothing below C turns; its cells -/
theorem box_below {C b : Nat} {W W' : World} {o : Obj} (h : W.heap[b]? = some o) (hb : Below C W W') (hC : b < C) : W'.heap[b]? = some o := (hb.block b hC).trans h
theorem box_cells {b : Nat} {W : World} {cs : Array Value} {t : TypeId} {fr : Nat × Nat} (h : W.heap[b]? = some (.cells cs t fr)) : ∀ i, W.cell? ⟨b, i, none⟩ = cs[i]? := fun i => by simp [World.cell?, h]
theorem box_new (w : World) (o : Obj) : (w.alloc o).heap[w.heap.size]? = some o := heap_alloc_new w o
theorem cells_alloc {b : Nat} {W : World} {cs : Array Value} (h : ∀ i, W.cell? ⟨b, i, none⟩ = cs[i]?) (hb : b < W.heap.size) (o : Obj) : ∀ i, (W.alloc o).cell? ⟨b, i, none⟩ = cs[i]? := fun i => (World.cell?_alloc_lt W o ⟨b, i, none⟩ hb).trans (h i)
theorem cells_below {b C : Nat} {W W' : World} {cs : Array Value} (h : ∀ i, W.cell? ⟨b, i, none⟩ = cs[i]?) (hB : Below C W W') (hb : b < C) : ∀ i, W'.cell? ⟨b, i, none⟩ = cs[i]? := fun i => (hB.cell (p := ⟨b, i, none⟩) hb).trans (h i)
theorem at_new_drew (w : World) (cs : Array Value) (t : TypeId) (fr : Nat × Nat) : At (w.alloc (.cells cs t fr)).drew (some ⟨w.heap.size, 0, none⟩) cs.toList := at_new w cs t fr
theorem box_free {b : Nat} {W : World} {cs : Array Value} {t : TypeId} (h : W.heap[b]? = some (.cells cs t (0, 0))) : ∀ i, W.frozen? ⟨b, i, none⟩ = false := fun i => by simp [World.frozen?, h]
theorem box_lt {b : Nat} {W : World} {o : Obj} (h : W.heap[b]? = some o) : b < W.heap.size := by
  rcases Nat.lt_or_ge b W.heap.size with hlt | hge
  · exact hlt
  · rw [Array.getElem?_eq_none hge] at h; cases h
theorem own_drewN {base : Nat} {w : World} {e : TypeId} {size : Nat} {v : Value} {n : Nat} {xs : List Value} (k : Nat) (h : w.ownsRow base e size v n xs) : (w.drewN k).ownsRow base e size v n xs := h
theorem below_drewN {B : Nat} {w w' : World} (k : Nat) (h : Below B w w') : Below B w (w'.drewN k) := h.trans ⟨rfl, rfl, rfl, Nat.le_refl _, fun _ _ => rfl⟩
theorem quiet_eq {P : Program} {f : FuncId} {args : Array Value} {w : World} {n : Nat} {v : Value}
    (h : Calls P f args (w.drewN n) fun e w' => e = .returned v ∧ w.drewN n = w') : Calls P f args (w.drewN n) fun e w'' => e = .returned v ∧ ∃ m, w'' = w.drewN m :=
  h.mono fun _ _ ⟨he, hm⟩ => ⟨he, n, hm.symm⟩
end Go.Proofs.YtfpbboldfilhlaaDoor
