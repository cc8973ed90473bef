/-
  Contracts of cellsText of the given program and of l04Cells of its reference. Conditions: the cells are valid.
-/
import Derived.Test.YtfabclhcceooaaaNewScr
import Derived.Test.YtfabclhcceooaaaBuilderK
namespace Go.Proofs.Ytfabclhcceooaaa
open Go.ChangeShapes Go.WideShapes Go.ChangeAt Go.RowKit
set_option linter.unusedVariables false
set_option linter.unusedSimpArgs false
set_option maxRecDepth 20000

theorem cells_eq {b : Nat} {w w' : World} {cs : Array Value} (h : ∀ i, w.cell? ⟨b, i, none⟩ = cs[i]?) (hk : w'.heap[b]? = w.heap[b]?) : ∀ i, w'.cell? ⟨b, i, none⟩ = cs[i]? := fun i => (World.cell?_of_block (w := w) hk).trans (h i)

set_option maxHeartbeats 2000000 in
theorem cellsText_any (ao : Option Addr) (n c : Nat) (cs : List (Int × Int)) (w : World) (ha : At w ao (cellsV cs)) (hl : cs.length = n) (hn : n ≤ 1048576) (hz : ∀ c ∈ cs, cellB c = true) :
    Calls Try.prog 69 #[.slice ao n c] w fun e w' => e = .returned (.string ⟨(cellsL cs).toArray⟩) ∧ Below w.heap.size w w' := by
  have HL := Lib.hid hl
  have HZ := Lib.hid hz
  clear hl hz
  go_enter Try.func69, Try.ntmps69
  go_wp2
  go_loopw [8] (fun i wr => ∃ k : Nat, k ≤ n ∧ i = .int .i64 k ∧ Lib.IsBuilder 102 5 w.heap.size w.heap.size (u8s (cellsL (cs.take k))) wr ∧ Below w.heap.size w wr ∧ w.heap.size < wr.heap.size) (fun i _ => n - (intOf i).toNat)
  case atStart => exact ⟨0, Nat.zero_le _, rfl, .inl ⟨Nat.le_refl _, _, heap_alloc_new w _, World.ownsRow_nil _ _ _ _, by simp [Value.ownBlock]⟩, (Below.refl _ _).alloc (Nat.le_refl _) _, by simp⟩
  case round =>
    obtain ⟨k, hk, rfl, hB, hb, hz⟩ := hrel
    by_cases hkt : k < n
    · have hkz : k < cs.length := by have := HL.out; omega
      obtain ⟨b, off, rfl, c0, c1⟩ := (ha.below hb (Nat.le_refl _)).cell2 hkz
      obtain ⟨p1, p2, p3, p4⟩ := cell_facts (HZ.out _ (List.getElem_mem hkz))
      obtain ⟨rn, hr⟩ : ∃ rn : Nat, cs[k].1 = (rn : Int) := ⟨cs[k].1.toNat, by omega⟩
      obtain ⟨ln, hln⟩ : ∃ ln : Nat, cs[k].2 = (ln : Int) := ⟨cs[k].2.toNat, by omega⟩
      have HN : Hid (cellsL (cs.take (k + 1)) = cellsL (cs.take k) ++ (bigL rn 3 ++ bigL ln 1)) := by
        show _ = _
        rw [List.take_succ_eq_append_getElem hkz, cellsL_snoc, hr, hln]; rfl
      rw [hr] at c0 p1 p2
      rw [hln] at c1 p3 p4
      have i1 : (0 : Int) ≤ (k : Int) := by omega
      have i2 : (k : Int) < (n : Int) := by omega
      have HS : Hid ((u8s (cellsL (cs.take k))).length ≤ 4194304) := by show _ ≤ _; rw [length_u8s, length_cellsL]; simp; omega
      clear ha hr hln
      go_wp2_with fail
      have hX := box_new wr (.cells #[.int .i64 (rn : Int), .int .i64 (ln : Int)] 76)
      have x0 := box_cells hX
      have HB0 := Lib.hid (isBuilder_below hB ((Below.refl wr.heap.size wr).alloc (Nat.le_refl _) (.cells #[.int .i64 (rn : Int), .int .i64 (ln : Int)] 76)) hz)
      have hbA : Below w.heap.size w (wr.alloc (.cells #[.int .i64 (rn : Int), .int .i64 (ln : Int)] 76)) := hb.alloc (by omega) _
      have HX := Lib.hid hX
      generalize hW : wr.alloc (.cells #[.int .i64 (rn : Int), .int .i64 (ln : Int)] 76) = W at *
      have hzW : W.heap.size = wr.heap.size + 1 := by rw [← hW]; simp
      clear hW hX hB hb
      generalize hcb : wr.heap.size = cb at *
      clear hcb
      have x0' : ∀ i, W.drew.cell? ⟨cb, i, none⟩ = (#[.int .i64 (rn : Int), .int .i64 (ln : Int)] : Array Value)[i]? := x0
      have HXd : Hid (W.drew.heap[cb]? = some (.cells #[.int .i64 (rn : Int), .int .i64 (ln : Int)] 76)) := HX.out
      have HBd : Hid (Lib.IsBuilder 102 5 w.heap.size w.heap.size (u8s (cellsL (cs.take k))) W.drew) := HB0.out
      have hbd : Below w.heap.size w W.drew := hbA.drew
      have s3 : (⟨(bigL rn 3).toArray⟩ : ByteArray).size = 3 := by show (bigL rn 3).toArray.size = 3; simp [length_bigL]
      have s1 : (⟨(bigL ln 1).toArray⟩ : ByteArray).size = 1 := by show (bigL ln 1).toArray.size = 1; simp [length_bigL]
      have hcbW : w.heap.size < W.heap.size := by omega
      have hcbW' : cb < W.heap.size := by omega
      go_region_held3 (fun w' => ∀ i, w'.cell? ⟨cb, i, none⟩ = (#[.int .i64 (rn : Int), .int .i64 (ln : Int)] : Array Value)[i]?) (first | with_reducible exact x3 | with_reducible exact x2 | with_reducible exact x1 | exact x0')
        (first
        | (have _nd := hb2; go_at_call 92; refine (writeString_keep w.heap.size w.heap.size _ _ _ (isBuilder_below (isBuilder_below HBd.out hb1 (by exact hcbW)) hb2 (by omega)) (by have := HS.out; rw [ByteArray.size_append, s3, s1]; omega) (by omega)).mono ?_; rintro e w3 ⟨rfl, hB3, hb3, hk3⟩; have x3 := cells_eq x2 (hk3 cb _ _ _ HX2 (by decide) (by omega)))
        | (have _nd := hb1; go_at_call 93; refine (bigBytes_any ln 1 _ (by omega) (by decide)).mono ?_; rintro e w2 ⟨rfl, hb2⟩; have hz2 := hb2.size; have x2 := cells_below x1 hb2 (by omega); have HX2 := box_below HX1 hb2 (by omega))
        | (go_at_call 93; refine (bigBytes_any rn 3 _ (by omega) (by decide)).mono ?_; rintro e w1 ⟨rfl, hb1⟩; have hz1 : W.heap.size ≤ w1.heap.size := hb1.size; have x1 := cells_below x0' hb1 (by exact hcbW'); have HX1 := box_below HXd.out hb1 (by exact hcbW'))
        | fail)
      rename_i hh
      clear hh x0 x0' x1 x2 x3 HX1 HX2 c0 c1
      have HE : Hid (Lib.strCells ((⟨(bigL rn 3).toArray⟩ : ByteArray) ++ ⟨(bigL ln 1).toArray⟩) = u8s (bigL rn 3 ++ bigL ln 1)) := by
        show _ = _
        rw [← strCells_u8s]
        congr 1
      have hz3 := hb3.size
      go_wp2
      go_roundw
      case rel => exact ⟨k + 1, by omega, by go_num, by rw [HN.out, u8s_append, ← HE.out]; exact hB3, ((hbd.trans (hb1.mono (by exact Nat.le_of_lt hcbW))).trans (hb2.mono (by omega))).trans hb3, by omega⟩
      case measure => simp [intOf]; omega
    · have hkk : Hid (k = n) := by show k = n; omega
      go_wp2_with (go_at_call 94; refine (Try.Builder_String_any w.heap.size w.heap.size (cellsL (cs.take k)) _ hB (by omega)).mono ?_; rintro e w1 ⟨rfl, hb1⟩)
      go_ret
      exact ⟨ret_str (by rw [List.take_of_length_le (by have := HL.out; have := hkk.out; omega)]), hb.trans (hb1.mono (by omega))⟩

theorem u8s_one_byte (ln : Nat) (h : ln ≤ 127) : u8s (bigL ln 1) = [.int .u8 (ln : Int)] := by
  have e : bigL ln 1 = [UInt8.ofNat (ln % 256)] := rfl
  rw [e]
  show [Value.int .u8 ((UInt8.ofNat (ln % 256)).toNat : Int)] = _
  rw [ofNat_mod, Int.emod_eq_of_lt (by omega) (by omega)]

set_option maxHeartbeats 4000000 in
set_option maxRecDepth 100000 in
theorem l04Cells_any (wd ht x y lk tp bt sx sy : Int) (ti : ByteArray) (aC : Option Addr) (lenC capC : Nat) (cs : List (Int × Int)) (aH : Option Addr) (lenH capH : Nat) (Wn y' : Nat) (w : World) (ha : At w aC (cellsV cs)) (hl : cs.length = lenC) (hn : lenC ≤ 1048576) (hz : ∀ c ∈ cs, cellB c = true) (hwd : wd = (Wn : Int)) (hW : Wn ≤ 24) (hy : y' ≤ 10) (hfit : y' * Wn + Wn ≤ lenC) :
    Calls Try.prog 68 #[.agg #[.int .i64 wd, .int .i64 ht, .int .i64 x, .int .i64 y, .int .i64 lk, .int .i64 tp, .int .i64 bt, .int .i64 sx, .int .i64 sy, .string ti, .slice aC lenC capC, .slice aH lenH capH], .int .i64 y'] w fun e w' => e = .returned (.string ⟨(cellsL (rowC cs Wn y')).toArray⟩) ∧ Below w.heap.size w w' := by
  subst hwd
  obtain ⟨i0, hi, iz0, iz1, iz2⟩ := info_parts Try.info_i8
  obtain ⟨p, hp⟩ : ∃ p, y' * Wn = p := ⟨_, rfl⟩
  have hp2 : p ≤ 240 := by rw [← hp]; exact Nat.le_trans (Nat.mul_le_mul hy hW) (by decide)
  have hpi : (y' : Int) * (Wn : Int) = (p : Int) := by rw [← hp]; simp
  rw [hp] at hfit
  have HL := Lib.hid hl
  have HZ := Lib.hid hz
  have HR : Hid (∀ k (hk : k < Wn), ∃ h : p + k < cs.length, (rowC cs Wn y').take (k + 1) = (rowC cs Wn y').take k ++ [cs[p + k]]) := by
    intro k hk
    refine ⟨by omega, ?_⟩
    have hlen : k < (rowC cs Wn y').length := by rw [rowC, List.length_take, List.length_drop]; omega
    rw [List.take_succ_eq_append_getElem hlen]
    congr 2
    simp only [rowC, List.getElem_take, List.getElem_drop, hp]
  have HLR : Hid ((rowC cs Wn y').length = Wn) := by show _ = _; rw [rowC, List.length_take, List.length_drop]; omega
  clear hl hz hp
  generalize rowC cs Wn y' = row at *
  have HB0 : Hid (Below w.heap.size w (w.alloc (.cells #[.int .i64 (Wn : Int), .int .i64 ht, .int .i64 x, .int .i64 y, .int .i64 lk, .int .i64 tp, .int .i64 bt, .int .i64 sx, .int .i64 sy, .string ti, .slice aC lenC capC, .slice aH lenH capH] 42))) := (Below.refl _ _).alloc (Nat.le_refl _) _
  go_enter Try.func68, Try.ntmps68
  go_wp2_with fail
  have X0 := box_new w (.cells #[.int .i64 (Wn : Int), .int .i64 ht, .int .i64 x, .int .i64 y, .int .i64 lk, .int .i64 tp, .int .i64 bt, .int .i64 sx, .int .i64 sy, .string ti, .slice aC lenC capC, .slice aH lenH capH] 42)
  have HA := Lib.hid (ha.below HB0.out (Nat.le_refl _))
  clear ha
  generalize hW0 : w.alloc (.cells #[.int .i64 (Wn : Int), .int .i64 ht, .int .i64 x, .int .i64 y, .int .i64 lk, .int .i64 tp, .int .i64 bt, .int .i64 sx, .int .i64 sy, .string ti, .slice aC lenC capC, .slice aH lenH capH] 42) = W0 at *
  have hzW : W0.heap.size = w.heap.size + 1 := by rw [← hW0]; simp
  clear hW0
  have HX0 := Lib.hid X0
  clear X0
  go_loopw [5, 6] (fun v i wr => ∃ k : Nat, k ≤ Wn ∧ i = .int .i64 k ∧ ∃ (g m cap : Nat), v = .slice (some ⟨g, 0, none⟩) m cap ∧ m = 4 * k ∧ wr.ownsRow W0.heap.size 5 1 (.slice (some ⟨g, 0, none⟩) m cap) m (u8s (cellsL (row.take k))) ∧ Below W0.heap.size W0 wr) (fun _ i _ => Wn - (intOf i).toNat)
  case atStart => exact ⟨0, Nat.zero_le _, rfl, _, 0, _, rfl, rfl, by rw [← hzW]; exact World.ownsRow_made _ _ 0 (Nat.le_refl _) (Nat.zero_le _) rfl, (Below.refl _ _).alloc (Nat.le_refl _) _⟩
  case round =>
    obtain ⟨k, hk, rfl, g, m, cap, rfl, hm, hown, hb⟩ := hrel
    have hm96 : m ≤ 96 := by omega
    have HMK := Lib.hid hm
    clear hm
    have x1 := box_cells (box_below HX0.out hb (by omega))
    have hz0 := hb.size
    by_cases hkt : k < Wn
    · obtain ⟨hkl, hrow⟩ := HR.out k hkt
      have HRW := Lib.hid hrow
      clear hrow
      obtain ⟨b, off, rfl, c0, c1⟩ := (HA.out.below hb (Nat.le_refl _)).cell2 hkl
      obtain ⟨p1, p2, p3, p4⟩ := cell_facts (HZ.out _ (List.getElem_mem hkl))
      obtain ⟨rn, hr⟩ : ∃ rn : Nat, cs[p + k].1 = (rn : Int) := ⟨cs[p + k].1.toNat, by omega⟩
      obtain ⟨ln, hln⟩ : ∃ ln : Nat, cs[p + k].2 = (ln : Int) := ⟨cs[p + k].2.toNat, by omega⟩
      have HN : Hid (cellsL (row.take (k + 1)) = cellsL (row.take k) ++ bigL rn 3 ++ bigL ln 1) := by
        show _ = _
        rw [HRW.out, cellsL_snoc, hr, hln, List.append_assoc]; rfl
      rw [hr] at c0 p1 p2
      rw [hln] at c1 p3 p4
      have i1 : (0 : Int) ≤ (p : Int) + (k : Int) := by omega
      have i2 : (p : Int) + (k : Int) < (lenC : Int) := by have := HL.out; omega
      have i3 : ((p : Int) + (k : Int)).toNat = p + k := by omega
      have i4 : (k : Int) < (Wn : Int) := by omega
      clear hr hln HA HR
      go_wp2_with fail
      have hX := box_new wr (.cells #[.int .i64 (rn : Int), .int .i64 (ln : Int)] 76)
      have hown0 := hown.alloc (.cells #[.int .i64 (rn : Int), .int .i64 (ln : Int)] 76)
      have hbA : Below W0.heap.size W0 (wr.alloc (.cells #[.int .i64 (rn : Int), .int .i64 (ln : Int)] 76)) := hb.alloc (by omega) _
      generalize hW : wr.alloc (.cells #[.int .i64 (rn : Int), .int .i64 (ln : Int)] 76) = W at *
      have hzW1 : W.heap.size = wr.heap.size + 1 := by rw [← hW]; simp
      have hzA : wr.heap.size + 1 ≤ W.heap.size := by omega
      have hgw : g < wr.heap.size := (hown.lt g rfl).2
      clear hW hown hb c0 c1 x1 hzW1
      generalize hcb : wr.heap.size = cb at *
      clear hcb
      have hbd : Below W0.heap.size W0 W.drew := hbA.drew
      have hownd : W.drew.ownsRow W0.heap.size 5 1 (.slice (some ⟨g, 0, none⟩) m cap) m (u8s (cellsL (row.take k))) := hown0
      have HXd : Hid (W.drew.heap[cb]? = some (.cells #[.int .i64 (rn : Int), .int .i64 (ln : Int)] 76)) := hX
      have x0' : ∀ i, W.drew.cell? ⟨cb, i, none⟩ = (#[.int .i64 (rn : Int), .int .i64 (ln : Int)] : Array Value)[i]? := box_cells HXd.out
      have hcw : W0.heap.size ≤ W.heap.size := by omega
      have hcb' : cb < W.heap.size := by omega
      have hlq : IntKind.u8.wrap (ln : Int) = (ln : Int) := by rw [IntKind.wrap_u8]; omega
      have HQ := Lib.hid (u8s_one_byte ln (by omega))
      have x0c : ∀ i, (W.alloc (.cells #[.int .u8 (ln : Int)] 5)).drew.cell? ⟨cb, i, none⟩ = (#[.int .i64 (rn : Int), .int .i64 (ln : Int)] : Array Value)[i]? := cells_alloc (box_cells hX) hcb' _
      have hownc : (W.alloc (.cells #[.int .u8 (ln : Int)] 5)).drew.ownsRow W0.heap.size 5 1 (.slice (some ⟨g, 0, none⟩) m cap) m (u8s (cellsL (row.take k))) := hown0.alloc _
      have hbc : Below W0.heap.size W0 (W.alloc (.cells #[.int .u8 (ln : Int)] 5)).drew := (hbA.alloc hcw _).drew
      have hblk0 : (W.alloc (.cells #[.int .u8 (ln : Int)] 5)).drew.heap[W.heap.size]? = some (.cells #[.int .u8 (ln : Int)] 5) := heap_alloc_new W _
      have hzc : W.heap.size + 1 ≤ (W.alloc (.cells #[.int .u8 (ln : Int)] 5)).drew.heap.size := by show _ ≤ (W.alloc _).heap.size; simp
      clear hX hown0 hbA
      go_region_held3 (fun w' => ∀ i, w'.cell? ⟨cb, i, none⟩ = (#[.int .i64 (rn : Int), .int .i64 (ln : Int)] : Array Value)[i]?) (first | with_reducible exact x4 | with_reducible exact x3 | with_reducible exact x2 | with_reducible exact x1 | with_reducible exact x2' | with_reducible exact x1' | with_reducible exact x0c | exact x0' | fail)
        (first
        | (go_at_call 91; refine (l02Number_any rn 3 _ (by omega) (by decide)).mono ?_; rintro e w1 ⟨g1, cap1, rfl, hown1, hb1⟩; have B1 : Below W0.heap.size W0 w1 := hbd.trans (hb1.mono (by exact hcw)); have hz1 : W.heap.size ≤ w1.heap.size := hb1.size; have x1 := cells_below x0' hb1 (by exact hcb'); have x1' := cells_alloc x1 (by omega) (.cells #[.int .u8 (ln : Int)] 5))
        | (go_at_call 91; refine (l02Number_any rn 3 _ (by omega) (by decide)).mono ?_; rintro e w1 ⟨g1, cap1, rfl, hown1, hb1⟩; have B1 : Below W0.heap.size W0 w1 := hbc.trans (hb1.mono (by omega)); have hz1 : W.heap.size + 1 ≤ w1.heap.size := (by have := hb1.size; omega); have x1 := cells_below x0c hb1 (by omega); have hblk1 := box_below hblk0 hb1 (by omega))
        | (have _nd := hblk; refine step_append_lies _ (by rfl) (.tmp 29) (.tmp 33) 58 (by rfl) W0.heap.size 5 i0 (.int .u8 0) 1 1 Try.underlying58 hi iz0 iz1 iz2 rfl (by decide) _ _ _ (by rfl) hown2 ⟨_, 0, none⟩ 1 1 [.int .u8 (ln : Int)] (by rfl) rfl (fun j u hu => World.news_of_block hblk j u hu) (by intro u hu; simp at hu; subst hu; rfl) (by decide) (by unfold maxLen; omega) (by omega) B2.size _ rfl ?_; intro g3 cap3 w3 hown3 hgrow3 hlie3 hlt3; have x3 := cells_eq x2 (hgrow3.block cb (by omega) (by simp [Value.ownBlock]; omega)); have B3 : Below W0.heap.size W0 w3 := B2.grown hgrow3 B2.size (fun j hj => (hown2.lt j hj).1); clear hgrow3 hlie3)
        | (have _nd := hown2; refine step_append_lies _ (by rfl) (.tmp 29) (.tmp 33) 58 (by rfl) W0.heap.size 5 i0 (.int .u8 0) 1 1 Try.underlying58 hi iz0 iz1 iz2 rfl (by decide) _ _ _ (by rfl) (hown2.alloc _) ⟨w2.heap.size, 0, none⟩ 1 1 [.int .u8 (ln : Int)] (by rfl) rfl (fun j u hu => World.news_of_block (heap_alloc_new _ _) j u hu) (by intro u hu; simp at hu; subst hu; rfl) (by decide) (by unfold maxLen; omega) (by omega) (by have := B2.size; simp; omega) _ rfl ?_; intro g3 cap3 w3 hown3 hgrow3 hlie3 hlt3; have x3 := cells_eq x2' (hgrow3.block cb (by simp; omega) (by simp [Value.ownBlock]; omega)); have B3 : Below W0.heap.size W0 w3 := (B2.alloc B2.size _).grown hgrow3 (by have := B2.size; simp; omega) (fun j hj => (hown2.lt j hj).1); clear hgrow3 hlie3)
        | (refine step_append_lies _ (by rfl) (.tmp 25) (.tmp 28) 58 (by rfl) W0.heap.size 5 i0 (.int .u8 0) 1 1 Try.underlying58 hi iz0 iz1 iz2 rfl (by decide) _ _ _ (by rfl) (hownd.kept (grownBy_of_below none hb1) (Or.inr (by simp [Value.ownBlock]))) ⟨g1, 0, none⟩ 3 cap1 (u8s (bigL rn 3)) (by rfl) (by simp [u8s, length_bigL]) (hown1.cells rfl) (u8s_one _) (by decide) (by unfold maxLen; omega) (by omega) B1.size _ rfl ?_; intro g2 cap2 w2 hown2 hgrow2 hlie2 hlt2; have B2 : Below W0.heap.size W0 w2 := B1.grown hgrow2 B1.size (fun j hj => (hownd.lt j hj).1); have hz2 : w1.heap.size ≤ w2.heap.size := hgrow2.size; have x2 := cells_eq x1 (hgrow2.block cb (by omega) (by simp [Value.ownBlock]; omega)); have x2' := cells_alloc x2 (by omega) (.cells #[.int .u8 (ln : Int)] 5); have hg2 : g2 ≠ cb := (by rcases hlie2 with h | h; (simp [Value.ownBlock] at h; omega); omega); clear hgrow2 hlie2)
        | (refine step_append_lies _ (by rfl) (.tmp 25) (.tmp 28) 58 (by rfl) W0.heap.size 5 i0 (.int .u8 0) 1 1 Try.underlying58 hi iz0 iz1 iz2 rfl (by decide) _ _ _ (by rfl) (hownc.kept (grownBy_of_below none hb1) (Or.inr (by simp [Value.ownBlock]))) ⟨g1, 0, none⟩ 3 cap1 (u8s (bigL rn 3)) (by rfl) (by simp [u8s, length_bigL]) (hown1.cells rfl) (u8s_one _) (by decide) (by unfold maxLen; omega) (by omega) B1.size _ rfl ?_; intro g2 cap2 w2 hown2 hgrow2 hlie2 hlt2; have B2 : Below W0.heap.size W0 w2 := B1.grown hgrow2 B1.size (fun j hj => (hownc.lt j hj).1); have hz2 : w1.heap.size ≤ w2.heap.size := hgrow2.size; have x2 := cells_eq x1 (hgrow2.block cb (by omega) (by simp [Value.ownBlock]; omega)); have hblk : w2.heap[W.heap.size]? = some (.cells #[.int .u8 (ln : Int)] 5) := (hgrow2.block W.heap.size (by omega) (by simp [Value.ownBlock]; omega)).trans hblk1; have hg2 : g2 ≠ cb := (by rcases hlie2 with h | h; (simp [Value.ownBlock] at h; omega); omega); clear hgrow2 hlie2)
        | (refine step_append_lies _ (by rfl) (.tmp 25) (.tmp 28) 58 (by rfl) W0.heap.size 5 i0 (.int .u8 0) 1 1 Try.underlying58 hi iz0 iz1 iz2 rfl (by decide) _ _ _ (by rfl) ((hownd.kept (grownBy_of_below none hb1) (Or.inr (by simp [Value.ownBlock]))).alloc _) ⟨g1, 0, none⟩ 3 cap1 (u8s (bigL rn 3)) (by rfl) (by simp [u8s, length_bigL]) ((hown1.alloc _).cells rfl) (u8s_one _) (by decide) (by unfold maxLen; omega) (by omega) (B1.alloc B1.size _).size _ rfl ?_; intro g2 cap2 w2 hown2 hgrow2 hlie2 hlt2; have B2 : Below W0.heap.size W0 w2 := (B1.alloc B1.size _).grown hgrow2 (B1.alloc B1.size _).size (fun j hj => (hownd.lt j hj).1); have hz2 : w1.heap.size + 1 ≤ w2.heap.size := (by have := hgrow2.size; simpa using this); have x2 := cells_eq x1' (hgrow2.block cb (by simp; omega) (by simp [Value.ownBlock]; omega)); have hblk : w2.heap[w1.heap.size]? = some (.cells #[.int .u8 (ln : Int)] 5) := (hgrow2.block w1.heap.size (by simp) (by simp [Value.ownBlock]; omega)).trans (heap_alloc_new w1 _); have x2' := cells_alloc x2 (by omega) (.cells #[.int .u8 (ln : Int)] 5); have hg2 : g2 ≠ cb := (by rcases hlie2 with h | h; (simp [Value.ownBlock] at h; omega); (simp at h; omega)); clear hgrow2 hlie2)
        | fail)
      all_goals
        rename_i hh
        clear hh
        go_wp2
        go_roundw
        case rel => exact ⟨k + 1, by omega, by go_num, g3, _, cap3, rfl, by have := HMK.out; omega, by rw [HN.out, u8s_append, u8s_append, HQ.out]; exact hown3, B3⟩
        case measure => simp [intOf]; omega
    · have hkk : Hid (row.take k = row) := by show _ = _; exact List.take_of_length_le (by have := HLR.out; omega)
      rw [hkk.out] at hown
      have hlen : (cellsL row).length = m := by rw [length_cellsL, HLR.out]; have := HMK.out; omega
      have cv := conv_at (P := Try.prog) 58 9 5 m cap Try.underlying58 Try.underlying5 Try.underlying9 (own_at hown).at hlen
      have i4 : (Wn : Int) ≤ (k : Int) := by omega
      have HBE := Lib.hid (HB0.out.trans (hb.mono (by omega)))
      clear hown hlen
      go_wp2
      go_ret
      exact ⟨rfl, HBE.out⟩
end Go.Proofs.Ytfabclhcceooaaa
