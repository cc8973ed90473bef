/-
  Contracts of the reference's FieldsBytes. Conditions: bounds on what is handed in.
-/
import Derived.Test.YtfabclhcceooaaaFields
namespace Go.Proofs.Ytfabclhcceooaaa
open Go.ChangeShapes Go.WideShapes Go.ChangeAt Go.RowKit
set_option linter.unusedVariables false
set_option maxRecDepth 20000

theorem step_append_str {P : Program} (w : World) {ops : Array Oper} {o : Oper} {a : Act} {K : Act → World → Prop} {Q : Exit → Act → World → Prop} {E : Prop} (hgd : o.guard = none) (sl x : Operand) (t u : TypeId)
    (ho : o.op = .call { callee := .builtin .append, args := #[sl, x], argTypes := #[t, u] })
    (base : Nat) (e : TypeId) (i : TypeInfo) (ht : P.underlying t = some (.slice e)) (hu : P.underlying u = some .string) (hi : P.info? e = some i) (hz : i.zero = some (.int .u8 0))
    (hsize : i.size = 1) (hby : i.bytes = 1)
    (v : Value) (n : Nat) (xs : List Value) (hs : a.eval sl = v) (hown : w.ownsRow base e 1 v n xs) (s : ByteArray) (hx : a.eval x = .string s)
    (h63 : n + s.size ≤ maxLen) (hbytes : n + s.size ≤ 140737488355328) (hbase : base ≤ w.heap.size) (hn : 0 < n)
    (h : ∀ g cap w', w'.ownsRow base e 1 (.slice (some ⟨g, 0, none⟩) (n + s.size) cap) (n + s.size) (xs ++ Lib.strCells s) → w.grownBy w' v.ownBlock → K (a.put o.dst (.slice (some ⟨g, 0, none⟩) (n + s.size) cap)) w') :
    if Region.wanted o (yielded ops a.tmps) = true then Oper.wp P o a w K Q else E := by
  have hw : Region.wanted o (yielded ops a.tmps) = true := by simp [Region.wanted, hgd]
  rw [if_pos hw]
  obtain ⟨v', w', hr, h2, h3, h4⟩ := Lib.run_append_own_string (P := P) w base t u o.type e i ht hu hi hz hsize hby v n xs hown s h63 hbytes hbase
  obtain ⟨g, cap, rfl⟩ := own_slice h2 (by omega)
  unfold Oper.wp execOp
  simp only [ho, resolve, invoke, builtin, Sem.run_bind, Sem.run_pure, Result.andThen_ok, List.map_toArray, List.map_cons, List.map_nil, hs, hx, hr]
  exact h _ _ _ h2 h3

set_option maxHeartbeats 1000000 in
theorem l02Fields_any (ao : Option Addr) (n c : Nat) (zs : List ByteArray) (w : World) (ha : At w ao (strs zs)) (hl : zs.length = n) (hn : n ≤ 60) (hz : ∀ s ∈ zs, s.size ≤ 20000) :
    Calls Try.prog 96 #[.slice ao n c] w fun e w' => ∃ g m cap, e = .returned (.slice (some ⟨g, 0, none⟩) m cap) ∧ m = (fieldsL zs).length ∧ Mine w.heap.size w' (some ⟨g, 0, none⟩) (u8s (fieldsL zs)) ∧ Below w.heap.size w w' := by
  obtain ⟨i0, hi, hz0, hz1, hz2⟩ := info_parts Try.info_i8
  have HL := Lib.hid hl
  have HZ := Lib.hid hz
  have HC : Hid ((UInt8.ofNat zs.length).toNat = n % 256) := by show _ = _; rw [hl]; simp
  clear hl hz
  go_enter Try.func96, Try.ntmps96
  go_wp2
  go_loopw [3, 4] (fun v i wr => ∃ k : Nat, k ≤ n ∧ i = .int .i64 k ∧ ∃ (g m cap : Nat) (l : List UInt8), v = .slice (some ⟨g, 0, none⟩) m cap ∧ m ≤ 1 + 20002 * k ∧ 0 < m ∧ Hid (l = UInt8.ofNat zs.length :: fldB (zs.take k)) ∧ wr.ownsRow w.heap.size 5 1 (.slice (some ⟨g, 0, none⟩) m cap) m (u8s l) ∧ Below w.heap.size w wr) (fun _ i _ => n - (intOf i).toNat)
  case atStart =>
    refine ⟨0, Nat.zero_le _, rfl, _, 1, 1, [UInt8.ofNat zs.length], rfl, by omega, by omega, by show _ = _; simp [fldB], ?_, (Below.refl _ _).alloc (Nat.le_refl _) _⟩
    refine ⟨rfl, .inr ⟨w.heap.size, 1, _, rfl, Nat.le_refl _, heap_alloc_new w _, Nat.le_refl _, by decide, rfl, ?_⟩⟩
    have hh := HC.out
    show [Value.int .u8 _] = [Value.int .u8 ((UInt8.ofNat zs.length).toNat : Int)]
    rw [hh]
    congr 2
    omega
  case round =>
    obtain ⟨k, hk, rfl, g, m, cap, l, rfl, hm, hm0, hlst, hown, hb⟩ := hrel
    by_cases hkt : k < n
    · have hkz : k < zs.length := by have := HL.out; omega
      obtain ⟨b, off, rfl, hc⟩ := ha.get (strs_ne hkz)
      have hcw : w.cell? ⟨b, off + k, none⟩ = some (.string zs[k]) := by rw [hc k (by simpa [strs] using hkz), strs_get _ _ _ hkz]
      have hbw : b < w.heap.size := World.block_lt_of_cell? w _ hcw
      have hcell : wr.cell? ⟨b, off + k, none⟩ = some (.string zs[k]) := (hb.cell (p := ⟨b, off + k, none⟩) hbw).trans hcw
      have hsz : zs[k].size ≤ 20000 := HZ.out _ (List.getElem_mem hkz)
      have HN : Hid (UInt8.ofNat zs.length :: fldB (zs.take (k + 1)) = l ++ bigL zs[k].size 2 ++ zs[k].data.toList) := by
        show _ = _
        rw [List.take_succ_eq_append_getElem hkz, fldB_snoc, hlst.out]; simp
      have HSC : Hid (Lib.strCells zs[k] = u8s zs[k].data.toList) := by show _ = _; rw [← strCells_u8s zs[k].data.toList]
      have i1 : (0 : Int) ≤ (k : Int) := by omega
      have i2 : (k : Int) < (n : Int) := by omega
      have HZ0 := Lib.hid hb.size
      clear hc ha
      go_wp2
      go_region_held3 (fun w' => w'.cell? ⟨b, off + k, none⟩ = some (.string zs[k])) (first | exact hcell | exact hc1 | exact hc2 | exact hc3)
        (first
        | (go_at_call 91; refine (l02Number_any zs[k].size 2 _ (by omega) (by decide)).mono ?_; rintro e w1 ⟨g1, cap1, rfl, hown1, hb1⟩; have B1 : Below w.heap.size w w1 := hb.drew.trans (hb1.mono (by exact HZ0.out)); have hc1 : w1.cell? ⟨b, off + k, none⟩ = some (.string zs[k]) := (B1.cell (p := ⟨b, off + k, none⟩) hbw).trans hcw)
        | (refine step_append_str _ (by rfl) (.tmp 22) (.tmp 26) 58 9 (by rfl) w.heap.size 5 i0 Try.underlying58 Try.underlying9 hi hz0 hz1 hz2 _ _ _ (by rfl) hown2 zs[k] (by rfl) (by unfold maxLen; omega) (by omega) B2.size (by omega) ?_; intro g3 cap3 w3 hown3 hgrow3; have B3 : Below w.heap.size w w3 := B2.grown hgrow3 B2.size (fun j hj => (hown2.lt j hj).1); have hc3 : w3.cell? ⟨b, off + k, none⟩ = some (.string zs[k]) := (B3.cell (p := ⟨b, off + k, none⟩) hbw).trans hcw)
        | (refine step_append_lies _ (by rfl) (.tmp 15) (.tmp 21) 58 (by rfl) w.heap.size 5 i0 (.int .u8 0) 1 1 Try.underlying58 hi hz0 hz1 hz2 rfl (by decide) _ _ _ (by rfl) (hown.drew.kept (grownBy_of_below none hb1) (Or.inr (by simp [Value.ownBlock]))) ⟨g1, 0, none⟩ 2 cap1 (u8s (bigL zs[k].size 2)) (by rfl) (by simp [u8s, length_bigL]) (hown1.cells rfl) (u8s_one _) (by decide) (by unfold maxLen; omega) (by omega) B1.size _ rfl ?_; intro g2 cap2 w2 hown2 hgrow2 hlie2 hlt2; have B2 : Below w.heap.size w w2 := B1.grown hgrow2 B1.size (fun j hj => (hown.lt j hj).1); clear hgrow2 hlie2 hlt2; have hc2 : w2.cell? ⟨b, off + k, none⟩ = some (.string zs[k]) := (B2.cell (p := ⟨b, off + k, none⟩) hbw).trans hcw)
        | fail)
      go_wp2
      go_roundw
      case rel => exact ⟨k + 1, by omega, by go_num, g3, _, cap3, l ++ bigL zs[k].size 2 ++ zs[k].data.toList, rfl, by omega, by omega, HN.out.symm, by rw [u8s_append, u8s_append, ← HSC.out]; exact hown3, B3⟩
      case measure => simp [intOf]; omega
    · have hkk : Hid (k = n) := by show k = n; omega
      go_wp2
      go_ret
      have e : l = fieldsL zs := by rw [hlst.out, hkk.out, List.take_of_length_le (by rw [HL.out]; exact Nat.le_refl _)]; rfl
      refine ⟨g, m, cap, rfl, ?_, ?_, hb⟩
      · rw [← e]; have := hown.1; simpa [u8s] using this.symm
      · rw [← e]; exact own_at hown

theorem length_fieldsL (zs : List ByteArray) : (fieldsL zs).length = 1 + (fldB zs).length := by simp [fieldsL]; omega

end Go.Proofs.Ytfabclhcceooaaa
