/-
  Contract of the reference's l01Block: a block of 64 bytes taken into the state. Conditions: the state, the bytes and the constants lie as the cells say.
-/
import Derived.Test.YtfkpdinfoagfhaaDoorSha2
import Derived.Deep.AppendLies
namespace Go.Proofs.YtfkpdinfoagfhaaDoor
open Go.ChangeShapes Go.WideShapes Go.ChangeAt Go.RowKit
set_option linter.unusedVariables false
set_option linter.unusedSimpArgs false
set_option maxRecDepth 100000

theorem Tryd.info_u32 : (Tryd.prog.info? 52).map (fun i => (i.zero, i.size, i.bytes)) = some (some (Value.int .u32 0), 1, 4) := by kernel_rfl
def u32s (l : List Nat) : List Value := l.map fun x : Nat => Value.int .u32 (x : Int)
theorem u32s_zeros (n : Nat) : List.replicate n (Value.int .u32 0) = u32s (List.replicate n 0) := by simp [u32s]
theorem wd_own {base : Nat} {w : World} {e : TypeId} {size g n cap m : Nat} {l : List Nat} (h : w.ownsRow base e size (.slice (some ⟨g, 0, none⟩) n cap) m (u32s l)) : Wd w g 0 l := by
  have hm := own_at h
  intro i hi
  obtain ⟨b, off, he, _, hc⟩ := hm.get (by intro e; rw [u32s, List.map_eq_nil_iff] at e; subst e; simp at hi)
  simp only [Option.some.injEq, Addr.mk.injEq, and_true] at he
  obtain ⟨rfl, rfl⟩ := he
  obtain ⟨h1, h2⟩ := hc i (by simpa [u32s] using hi)
  refine ⟨?_, h2⟩
  rw [h1]
  simp [u32s, List.getD_eq_getElem?_getD, List.getElem?_eq_getElem hi]
theorem u32s_one (l : List Nat) : ∀ u ∈ u32s l, u.oneCell' = true := by intro u hu; simp only [u32s, List.mem_map] at hu; obtain ⟨x, _, rfl⟩ := hu; rfl
theorem wd_src {W : World} {b : Nat} {l : List Nat} (h : Wd W b 0 l) : ∀ j u, (u32s l)[j]? = some u → W.cell? ((⟨b, 0, none⟩ : Addr).add j) = some u := by
  intro j u hu
  obtain ⟨hj, hv⟩ := List.getElem?_eq_some_iff.1 hu
  have hj8 : j < l.length := by simpa [u32s] using hj
  have hadd : (⟨b, 0, none⟩ : Addr).add j = ⟨b, 0 + j, none⟩ := by unfold Addr.add; split <;> simp_all
  rw [hadd, (h j hj8).1, ← hv]
  simp [u32s, List.getD_eq_getElem?_getD, List.getElem?_eq_getElem hj8]
/-- bytes in the cells of a block, from a cell on -/
def By (w : World) (b o : Nat) (l : List UInt8) : Prop := ∀ i, i < l.length → w.cell? ⟨b, o + i, none⟩ = some (.int .u8 ((l.getD i 0).toNat : Int))
theorem By.below {C : Nat} {w w' : World} {b o : Nat} {l : List UInt8} (h : By w b o l) (hb : Below C w w') (hC : b < C) : By w' b o l := fun i hi => by rw [cell_congr (hb.block b hC)]; exact h i hi
/-- the constants stand in the cells of a block -/
def Kc (w : World) (b : Nat) : Prop := ∀ i, i < 64 → w.cell? ⟨b, i, none⟩ = some (.int .u32 (ks.getD i 0 : Nat))
theorem Kc.below {C : Nat} {w w' : World} {b : Nat} (h : Kc w b) (hb : Below C w w') (hC : b < C) : Kc w' b := fun i hi => by rw [cell_congr (hb.block b hC)]; exact h i hi

/-- all blocks but one are as they were -/
def Kept (sb : Nat) (w w' : World) : Prop := ∀ b, b < w.heap.size → b ≠ sb → w'.heap[b]? = w.heap[b]?
theorem Kept.set {sb : Nat} {w w' : World} (h : Kept sb w w') (i : Nat) (v : Value) : Kept sb w (w'.setCell ⟨sb, i, none⟩ v).drew := fun b hb hne => by
  rw [show (w'.setCell ⟨sb, i, none⟩ v).drew.heap[b]? = (w'.setCell ⟨sb, i, none⟩ v).heap[b]? from rfl, Below.heap_setCell _ _ _ _ hne]; exact h b hb hne

theorem wds_cells {w : World} {g : Nat} {t : Wds} (h : Wd w g 0 t.list) : w.cell? ⟨g, 0, none⟩ = some (.int .u32 (t.a : Int)) ∧ w.cell? ⟨g, 1, none⟩ = some (.int .u32 (t.b : Int)) ∧ w.cell? ⟨g, 2, none⟩ = some (.int .u32 (t.c : Int)) ∧ w.cell? ⟨g, 3, none⟩ = some (.int .u32 (t.d : Int)) ∧ w.cell? ⟨g, 4, none⟩ = some (.int .u32 (t.e : Int)) ∧ w.cell? ⟨g, 5, none⟩ = some (.int .u32 (t.f : Int)) ∧ w.cell? ⟨g, 6, none⟩ = some (.int .u32 (t.g : Int)) ∧ w.cell? ⟨g, 7, none⟩ = some (.int .u32 (t.h : Int)) :=
  ⟨(h 0 (by rw [Wds.length_list]; decide)).1, (h 1 (by rw [Wds.length_list]; decide)).1, (h 2 (by rw [Wds.length_list]; decide)).1, (h 3 (by rw [Wds.length_list]; decide)).1, (h 4 (by rw [Wds.length_list]; decide)).1, (h 5 (by rw [Wds.length_list]; decide)).1, (h 6 (by rw [Wds.length_list]; decide)).1, (h 7 (by rw [Wds.length_list]; decide)).1⟩

set_option maxHeartbeats 4000000 in
theorem l01Block_any (B sb sc bb bo bc kb kc : Nat) (s : Wds) (l : List UInt8) (w : World) (hs : s.ok) (hl : l.length = 64) (hm : Wd w sb 0 s.list) (hby : By w bb bo l) (hK : Kc w kb) (hsb : B ≤ sb) (hB : B ≤ w.heap.size) (hsw : sb < w.heap.size) (hbw : bb < w.heap.size) (hkw : kb < w.heap.size) :
    Calls Tryd.prog 36 #[.slice (some ⟨sb, 0, none⟩) 8 sc, .slice (some ⟨bb, bo, none⟩) 64 bc, .slice (some ⟨kb, 0, none⟩) 64 kc] w fun e w' => e = .returned (.tuple #[]) ∧ Wd w' sb 0 (blockW s l).list ∧ Below B w w' ∧ Kept sb w w' := by
  obtain ⟨i0, hi, hz0, hz1, hz2⟩ := info_parts Tryd.info_u32
  have HM := Lib.hid hm
  have HBY := Lib.hid hby
  have HK := Lib.hid hK
  have HS := Lib.hid hs
  have HLL := Lib.hid hl
  clear hm hby hK hs hl
  go_enter Tryd.func36, Tryd.ntmps36
  go_wp2_with (at_make; refine wpList_make_full _ rfl _ _ 53 rfl w.heap.size 52 i0 (.int .u32 0) 1 Tryd.underlying53 hi hz0 hz1 .i64 .i64 _ _ 64 rfl rfl rfl rfl (by rw [hz2]; omega) (by unfold maxLen; omega) (Nat.le_refl _) ?_; intro w0 hown0 hgrow0)
  have hw0 : Wd w0 w.heap.size 0 (sched l 0 ++ List.replicate (64 - 0) 0) := wd_own (l := List.replicate 64 0) (by
    rwa [show (madeCells (Value.cells (.int .u32 0)) (64 * 1)).toList = u32s (List.replicate 64 0) from by
      rw [Nat.mul_one]; exact (made_one _ 64).trans (u32s_zeros 64)] at hown0)
  have hsz0 : w.heap.size < w0.heap.size := (hown0.lt w.heap.size rfl).2
  have hb0 : Below w.heap.size w w0 := (Below.refl _ _).grown hgrow0 (Nat.le_refl _) (fun _ h => by cases h)
  clear hown0 hgrow0
  go_loopw [7] (fun i wr => ∃ k : Nat, k ≤ 16 ∧ i = .int .i64 k ∧ Wd wr w.heap.size 0 (sched l k ++ List.replicate (64 - k) 0) ∧ Below w.heap.size w wr ∧ w.heap.size < wr.heap.size) (fun i _ => 16 - (intOf i).toNat)
  case atStart => exact ⟨0, Nat.zero_le _, rfl, hw0, hb0, hsz0⟩
  case round =>
    obtain ⟨k, hk, rfl, hm, hbel, hsz⟩ := hrel
    clear hw0 hb0 hsz0
    by_cases hk16 : k < 16
    · obtain ⟨_, ⟨q0, c0⟩, f0, hset⟩ := sched_at hm (show k < 64 by omega)
      have HSET := Lib.hid hset
      have hbyr := HBY.out.below hbel hbw
      obtain ⟨p, hp⟩ : ∃ p, 4 * k = p := ⟨_, rfl⟩
      obtain ⟨p1, hp1⟩ : ∃ q, p + 1 = q := ⟨_, rfl⟩
      obtain ⟨p2, hp2⟩ : ∃ q, p + 2 = q := ⟨_, rfl⟩
      obtain ⟨p3, hp3⟩ : ∃ q, p + 3 = q := ⟨_, rfl⟩
      have v0 : IntKind.i64.wrap (4 * (k : Int)) = (p : Int) := by rw [IntKind.wrap_i64]; omega
      have v1 : IntKind.i64.wrap ((p : Int) + 1) = (p1 : Int) := by rw [IntKind.wrap_i64]; omega
      have v2 : IntKind.i64.wrap ((p : Int) + 2) = (p2 : Int) := by rw [IntKind.wrap_i64]; omega
      have v3 : IntKind.i64.wrap ((p : Int) + 3) = (p3 : Int) := by rw [IntKind.wrap_i64]; omega
      have h0 := hbyr p (by rw [HLL.out]; omega)
      have h1 := hbyr p1 (by rw [HLL.out]; omega)
      have h2 := hbyr p2 (by rw [HLL.out]; omega)
      have h3 := hbyr p3 (by rw [HLL.out]; omega)
      obtain ⟨x0, x1, x2, z1, z2, a0, a1, a2, a3, b0, b1, b2, d1, d2, d3⟩ := word_facts (l := l) (k := k) (y0 := (l.getD p 0).toNat) (y1 := (l.getD p1 0).toNat) (y2 := (l.getD p2 0).toNat) (y3 := (l.getD p3 0).toNat) (by rw [hp]) (by rw [hp, hp1]) (by rw [hp, hp2]) (by rw [hp, hp3])
      generalize (l.getD p 0).toNat = y0 at *
      generalize (l.getD p1 0).toNat = y1 at *
      generalize (l.getD p2 0).toNat = y2 at *
      generalize (l.getD p3 0).toNat = y3 at *
      obtain ⟨x, hx⟩ : ∃ x, word l k = x := ⟨_, rfl⟩
      rw [hx] at d3
      have HX : Hid (x = word l k) := hx.symm
      have L0 : (p : Int) < 64 := by omega
      have L1 : (p1 : Int) < 64 := by omega
      have L2 : (p2 : Int) < 64 := by omega
      have L3 : (p3 : Int) < 64 := by omega
      have LK : (k : Int) < 64 := by omega
      clear hp hp1 hp2 hp3 hx hset hm hbyr
      go_wp2_with fail
      go_region
      clear a0 a1 a2 a3 b0 b1 b2 d1 d2 d3 h0 h1 h2 h3 v0 v1 v2 v3
      go_wp2
      go_roundw
      case rel => exact ⟨k + 1, by omega, by go_num, HSET.out x (by rw [if_pos hk16]; exact HX.out), (hbel.setCell (p := ⟨w.heap.size, k, none⟩) (Nat.le_refl _) _).drew, by simpa [World.setCell] using hsz⟩
      case measure => simp [intOf]; omega
    · have hke : k = 16 := by omega
      rw [hke] at hm
      clear hke
      go_wp2_with fail
      go_loopw [8] (fun i wx => ∃ k : Nat, 16 ≤ k ∧ k ≤ 64 ∧ i = .int .i64 k ∧ Wd wx w.heap.size 0 (sched l k ++ List.replicate (64 - k) 0) ∧ Below w.heap.size w wx ∧ w.heap.size < wx.heap.size) (fun i _ => 64 - (intOf i).toNat)
      case atStart => exact ⟨16, Nat.le_refl _, by decide, rfl, hm, hbel, hsz⟩
      case round =>
        clear hm hbel hsz hk hk16
        obtain ⟨k, hk16, hk, rfl, hm, hbel, hsz⟩ := hrel
        by_cases hkt : k < 64
        · obtain ⟨k15, hk15⟩ : ∃ j, k - 15 = j := ⟨_, rfl⟩
          obtain ⟨k2, hk2⟩ : ∃ j, k - 2 = j := ⟨_, rfl⟩
          obtain ⟨k16, hkk⟩ : ∃ j, k - 16 = j := ⟨_, rfl⟩
          obtain ⟨k7, hk7⟩ : ∃ j, k - 7 = j := ⟨_, rfl⟩
          have v15 : IntKind.i64.wrap ((k : Int) - 15) = (k15 : Int) := by rw [IntKind.wrap_i64]; omega
          have v2 : IntKind.i64.wrap ((k : Int) - 2) = (k2 : Int) := by rw [IntKind.wrap_i64]; omega
          have v16 : IntKind.i64.wrap ((k : Int) - 16) = (k16 : Int) := by rw [IntKind.wrap_i64]; omega
          have v7 : IntKind.i64.wrap ((k : Int) - 7) = (k7 : Int) := by rw [IntKind.wrap_i64]; omega
          obtain ⟨hcell, ⟨q0, c0⟩, f0, hset⟩ := sched_at hm hkt
          have HSET := Lib.hid hset
          have c15 := hcell k15 (by omega)
          have c2 := hcell k2 (by omega)
          have c16 := hcell k16 (by omega)
          have c7 := hcell k7 (by omega)
          have t15 := getD_lt (sched_lt l k) k15
          have t2 := getD_lt (sched_lt l k) k2
          have hnext : Hid (nextW (sched l k) k = add32 (add32 (add32 ((sched l k).getD k16 0) (sg0 ((sched l k).getD k15 0))) ((sched l k).getD k7 0)) (sg1 ((sched l k).getD k2 0))) := by
            show _ = _
            rw [nextW, hk15, hk2, hkk, hk7]
          generalize (sched l k).getD k15 0 = x15 at *
          generalize (sched l k).getD k2 0 = x2 at *
          generalize (sched l k).getD k16 0 = x16 at *
          generalize (sched l k).getD k7 0 = x7 at *
          obtain ⟨t1, e1, e2⟩ := sg0_facts t15
          obtain ⟨t3, e3, e4⟩ := sg1_facts t2
          have r7 := fun w => still_eq (l01Turn_any x15 7 w t15 (by decide) (by decide))
          have r18 := fun w => still_eq (l01Turn_any x15 18 w t15 (by decide) (by decide))
          have r17 := fun w => still_eq (l01Turn_any x2 17 w t2 (by decide) (by decide))
          have r19 := fun w => still_eq (l01Turn_any x2 19 w t2 (by decide) (by decide))
          have g1 := wrap_add x16 (sg0 x15)
          have g2 := wrap_add (add32 x16 (sg0 x15)) x7
          have g3 := wrap_add (add32 (add32 x16 (sg0 x15)) x7) (sg1 x2)
          obtain ⟨x, hx⟩ : ∃ x, add32 (add32 (add32 x16 (sg0 x15)) x7) (sg1 x2) = x := ⟨_, rfl⟩
          rw [hx] at g3
          rw [hx] at hnext
          have L15 : (k15 : Int) < 64 := by omega
          have L2 : (k2 : Int) < 64 := by omega
          have L16 : (k16 : Int) < 64 := by omega
          have L7 : (k7 : Int) < 64 := by omega
          have HK16 := Lib.hid hk16
          have HBD : Hid (Below w.heap.size w wr.drew) := hbel.drew
          have hszd : w.heap.size < wr.drew.heap.size := hsz
          have HSETD : Hid (∀ (x : Nat), (x = if k < 16 then word l k else nextW (sched l k) k) → Wd (wr.drew.setCell ⟨w.heap.size, k, none⟩ (Value.int IntKind.u32 x)) w.heap.size 0 (sched l (k + 1) ++ List.replicate (64 - (k + 1)) 0)) := by
            show ∀ x, _
            intro x hx
            exact (hset x hx).drew
          have c0d : wr.drew.cell? ⟨w.heap.size, k, none⟩ = some (.int .u32 q0) := c0
          have f0d : wr.drew.frozen? ⟨w.heap.size, k, none⟩ = false := f0
          have LK : (k : Int) < 64 := by omega
          clear hk15 hk2 hkk hk7 hx hm hcell hk16 hset HSET hbel hsz
          go_wp2_with fail
          refine wp_region_still_tail 31 (by kernel_rfl) (by kernel_rfl) ?_
          simp only [List.take_succ_cons, List.take_zero, List.drop_succ_cons, List.drop_zero]
          repeat still_step
          still_call (r7 _)
          repeat still_step
          still_call (r18 _)
          repeat still_step
          still_call (r17 _)
          repeat still_step
          still_call (r19 _)
          repeat still_step
          refine wpStill_nil ?_
          change wpList _ _ _ _ _ wr.drew
          clear c16 c7 g1 g2 g3 e1 e2 e3 e4 r7 r17 r18 r19 c15 c2 c0 f0
          generalize wr.drew = V at *
          go_wp2
          go_roundw
          case rel => exact ⟨k + 1, Nat.le_succ_of_le HK16.out, by omega, by go_num, HSETD.out x (by rw [if_neg (Nat.not_lt.2 HK16.out)]; exact hnext.out.symm), HBD.out.setCell (p := ⟨w.heap.size, k, none⟩) (Nat.le_refl _) _, by simpa [World.setCell] using hszd⟩
          case measure => simp [intOf]; omega
        · obtain rfl : k = 64 := by omega
          have HWB := Lib.hid hm
          have HMS := Lib.hid (HM.out.below hbel hsw)
          have HKR := Lib.hid (HK.out.below hbel hkw)
          have hsw3 : sb < wr.heap.size := Nat.lt_trans hsw hsz
          clear hm
          have HKW : kb < w.heap.size := hkw
          go_wp2_with (at_builtin; (have hmade := World.ownsRow_made (base := wr.heap.size) (e := 52) (size := 1) wr #[] 0 (Nat.le_refl _) (Nat.zero_le _) rfl; refine wpList_append_lies _ rfl (.tmp 105) (.tmp 106) 53 rfl wr.heap.size 52 i0 (.int .u32 0) 1 4 Tryd.underlying53 hi hz0 hz1 hz2 rfl (by decide) _ _ _ rfl hmade ⟨sb, 0, none⟩ 8 sc (u32s s.list) rfl rfl (wd_src (HMS.out.below ((Below.refl _ _).alloc (Nat.le_refl _) _) hsw3)) (u32s_one _) (by decide) (by unfold maxLen; omega) (by decide) (by simp) _ rfl ?_; intro g cap w3 hown3 hgrow3 hn3 hlt3))
          have hg3 : (wr.alloc (Obj.cells #[] 52)).grownBy w3 (some wr.heap.size) := hgrow3
          have hb30 : Below wr.heap.size wr w3 := ((Below.refl _ wr).alloc (Nat.le_refl _) _).grown hg3 (by simp) (fun _ h => by cases h; exact Nat.le_refl _)
          have hgl : wr.heap.size ≤ g := by
            rcases hn3 with h | h
            · have h' : some wr.heap.size = some g := h
              injection h' with h'; omega
            · rw [h]; simp
          have HG : Hid (Wd w3 g 0 s.list) := wd_own hown3
          have HB1 : Hid (Below w.heap.size w w3) := hbel.trans (hb30.mono (Nat.le_of_lt hsz))
          have HW1 : Hid (Wd w3 w.heap.size 0 (sched l 64 ++ List.replicate (64 - 64) 0)) := HWB.out.below hb30 hsz
          have HM1 : Hid (Wd w3 sb 0 s.list) := HMS.out.below hb30 hsw3
          have HK1 : Hid (Kc w3 kb) := HKR.out.below hb30 (Nat.lt_trans hkw hsz)
          have hgw : w.heap.size < g := Nat.lt_of_lt_of_le hsz hgl
          clear hn3 hb30 hg3 hgrow3 hown3 hmade HWB HMS HKR HK HM hbel hsz hgl HBY HLL hk hk16
          go_wp2
          go_loopw [11, 12] (fun v i wx => ∃ k : Nat, k ≤ 64 ∧ i = .int .i64 k ∧ ∃ t : Wds, t.ok ∧ ∃ g cap : Nat, v = .slice (some ⟨g, 0, none⟩) 8 cap ∧ Hid (t = rounds s (sched l 64) k) ∧ Hid (Wd wx g 0 t.list) ∧ Hid (Wd wx w.heap.size 0 (sched l 64 ++ List.replicate (64 - 64) 0)) ∧ Hid (Wd wx sb 0 s.list) ∧ Hid (Kc wx kb) ∧ Hid (Below w.heap.size w wx) ∧ w.heap.size < g ∧ g < wx.heap.size) (fun _ i _ => 64 - (intOf i).toNat)
          case atStart => exact ⟨0, Nat.zero_le _, rfl, s, HS.out, g, cap, rfl, rfl, HG, HW1, HM1, HK1, HB1, hgw, hlt3⟩
          case round =>
            clear HG HW1 HM1 HK1 HB1 hgw hlt3
            obtain ⟨k, hk, rfl, t, ⟨ha, hb2, hc, hd, he, hf, hg, hh⟩, g, cap, rfl, ht, HG, HW, HM, HK, HB2, hgw, hgs⟩ := hrel
            by_cases hkt : k < 64
            · obtain ⟨y, hy⟩ : ∃ y, ks.getD k 0 = y := ⟨_, rfl⟩
              obtain ⟨x, hx⟩ : ∃ x, (sched l 64).getD k 0 = x := ⟨_, rfl⟩
              have cy := HK.out k hkt
              rw [hy] at cy
              have cx := (HW.out k (by rw [List.length_append, length_sched, List.length_replicate]; omega)).1
              rw [Nat.zero_add, sched_get hkt, hx] at cx
              have hstep : Hid (rounds s (sched l 64) (k + 1) = t.step y x) := by
                show _ = _
                rw [rounds, ← ht.out, hy, hx]
              have HOK : Hid (t.step y x).ok := Wds.step_ok ⟨ha, hb2, hc, hd, he, hf, hg, hh⟩ y x
              obtain ⟨t1, e1, e2⟩ := bs1_facts he
              obtain ⟨i1, i2, i3, j1, j2, j3, _, j4⟩ := ch_facts he hf hg
              have j5 : bits BinOp.xor IntKind.u32 (if IntKind.u32.signed = true then -1 else IntKind.u32.max) (t.e : Int) = (i2 : Int) := j2
              have j6 : bits BinOp.xor IntKind.u32 IntKind.u32.max (t.e : Int) = (i2 : Int) := j2
              have r6 := fun w => still_eq (l01Turn_any t.e 6 w he (by decide) (by decide))
              have r11 := fun w => still_eq (l01Turn_any t.e 11 w he (by decide) (by decide))
              have r25 := fun w => still_eq (l01Turn_any t.e 25 w he (by decide) (by decide))
              have g1 := wrap_add t.h (bs1 t.e)
              have g2 := wrap_add (add32 t.h (bs1 t.e)) (ch t.e t.f t.g)
              have g3 := wrap_add (add32 (add32 t.h (bs1 t.e)) (ch t.e t.f t.g)) y
              have g4 := wrap_add (add32 (add32 (add32 t.h (bs1 t.e)) (ch t.e t.f t.g)) y) x
              obtain ⟨p, hp⟩ : ∃ p, pOf t y x = p := ⟨_, rfl⟩
              obtain ⟨q, hq⟩ : ∃ q, qOf t = q := ⟨_, rfl⟩
              rw [show add32 (add32 (add32 (add32 t.h (bs1 t.e)) (ch t.e t.f t.g)) y) x = p from hp] at g4
              have HST : Hid (t.step y x = ⟨add32 p q, t.a, t.b, t.c, add32 t.d p, t.e, t.f, t.g⟩) := by
                show _ = _
                rw [Wds.step, hp, hq]
              have HQ := Lib.hid hq
              have HA : Hid (t.a < 4294967296 ∧ t.b < 4294967296 ∧ t.c < 4294967296) := ⟨ha, hb2, hc⟩
              obtain ⟨m0, m1, m2, m3, m4, m5, m6, m7⟩ := wds_cells HG.out
              have LK : (k : Int) < 64 := by omega
              clear ht hy hx hp hq
              go_wp2_with fail
              refine wp_region_still_lit (by kernel_rfl) (by kernel_rfl) ?_
              repeat still_step
              still_call (r6 _)
              repeat still_step
              still_call (r11 _)
              repeat still_step
              still_call (r25 _)
              repeat still_step
              refine wpStill_nil ?_
              change Exit.then _ _ Exit.normal _ wr.drew
              have HG2 : Hid (Wd wr.drew g 0 t.list) := HG.out
              have HW2 : Hid (Wd wr.drew w.heap.size 0 (sched l 64 ++ List.replicate (64 - 64) 0)) := HW.out
              have HM2 : Hid (Wd wr.drew sb 0 s.list) := HM.out
              have HK2 : Hid (Kc wr.drew kb) := HK.out
              have HB3 : Hid (Below w.heap.size w wr.drew) := HB2.out.drew
              have HS2 : g < wr.drew.heap.size := hgs
              clear r6 r11 r25 g1 g2 g3 g4 e1 e2 j1 j2 j3 j4 j5 j6 HW HM HK HB2 hgs cx cy HG m0 m1 m2 m3 m4 m5 m6 m7
              generalize wr.drew = V at *
              obtain ⟨m0, m1, m2, m3, m4, m5, m6, m7⟩ := wds_cells HG2.out
              obtain ⟨t2, e3, e4⟩ := bs0_facts HA.out.1
              obtain ⟨n1, n2, n3, n4, n5, o1, o2, o3, _, _, o4, o5⟩ := maj_facts HA.out.1 HA.out.2.1 HA.out.2.2
              have g5 := wrap_add (bs0 t.a) (maj t.a t.b t.c)
              rw [show add32 (bs0 t.a) (maj t.a t.b t.c) = q from HQ.out] at g5
              have r2 := fun w => still_eq (l01Turn_any t.a 2 w HA.out.1 (by decide) (by decide))
              have r13 := fun w => still_eq (l01Turn_any t.a 13 w HA.out.1 (by decide) (by decide))
              have r22 := fun w => still_eq (l01Turn_any t.a 22 w HA.out.1 (by decide) (by decide))
              go_wp2_with fail
              refine wp_region_still_lit (by kernel_rfl) (by kernel_rfl) ?_
              repeat still_step
              still_call (r2 _)
              repeat still_step
              still_call (r13 _)
              repeat still_step
              still_call (r22 _)
              repeat still_step
              refine wpStill_nil ?_
              change Exit.then _ _ Exit.normal _ V.drew
              have HG3 : Hid (Wd V.drew g 0 t.list) := HG2.out
              have HW3 : Hid (Wd V.drew w.heap.size 0 (sched l 64 ++ List.replicate (64 - 64) 0)) := HW2.out
              have HM3 : Hid (Wd V.drew sb 0 s.list) := HM2.out
              have HK3 : Hid (Kc V.drew kb) := HK2.out
              have HB4 : Hid (Below w.heap.size w V.drew) := HB3.out.drew
              have HS3 : g < V.drew.heap.size := HS2
              clear r2 r13 r22 g5 e3 e4 o1 o2 o3 o4 o5 HW2 HM2 HK2 HB3 HS2 HG2 m0 m1 m2 m3 m4 m5 m6 m7
              generalize V.drew = U at *
              obtain ⟨m0, m1, m2, m3, m4, m5, m6, m7⟩ := wds_cells HG3.out
              have g6 := wrap_add t.d p
              have g7 := wrap_add p q
              go_wp2_with fail
              refine wp_region_still_tail 26 (by kernel_rfl) (by kernel_rfl) ?_
              simp only [List.take_succ_cons, List.take_zero, List.drop_succ_cons, List.drop_zero]
              repeat still_step
              refine wpStill_nil ?_
              change wpList _ _ _ _ _ U.drew
              have HW4 : Hid (Wd U.drew w.heap.size 0 (sched l 64 ++ List.replicate (64 - 64) 0)) := HW3.out
              have HM4 : Hid (Wd U.drew sb 0 s.list) := HM3.out
              have HK4 : Hid (Kc U.drew kb) := HK3.out
              have HB5 : Hid (Below w.heap.size w U.drew) := HB4.out.drew
              have HS4 : g < U.drew.heap.size := HS3
              clear HW3 HM3 HK3 HB4 HS3 HG3 m0 m1 m2 m3 m4 m5 m6 m7 g6 g7
              generalize U.drew = X at *
              go_wp2
              go_roundw
              case rel => exact ⟨k + 1, by omega, by go_num, ⟨add32 p q, t.a, t.b, t.c, add32 t.d p, t.e, t.f, t.g⟩, by rw [← HST.out]; exact HOK.out, X.heap.size, 8, rfl, by show _ = _; rw [hstep.out, HST.out], wd_block (heap_alloc_new X _) rfl, HW4.out.below ((Below.refl _ X).alloc (Nat.le_refl _) _) (by omega), HM4.out.below ((Below.refl _ X).alloc (Nat.le_refl _) _) (by omega), HK4.out.below ((Below.refl _ X).alloc (Nat.le_refl _) _) (by omega), HB5.out.alloc (by omega) _, by omega, by simp⟩
              case measure => simp [intOf]; omega
            · have hke : k = 64 := by omega
              have HT : Hid (t = rounds s (sched l 64) 64) := by
                have := ht.out; rw [hke] at this; exact this
              have HBB : Hid (Below B w wr) := HB2.out.mono hB
              have HKP : Hid (Kept sb w wr) := fun b hb _ => HB2.out.block b hb
              have hne : Hid (g ≠ sb) := by show _ ≠ _; omega
              have HM0 : Hid (Wd wr sb 0 (mixL s t 0)) := HM.out
              clear ht hke HW HK HB2 HM ha hb2 hc hd he hf hg hh
              go_wp2
              go_loopw [17] (fun i wx => ∃ k : Nat, k ≤ 8 ∧ i = .int .i64 k ∧ Hid (Wd wx sb 0 (mixL s t k)) ∧ Hid (Wd wx g 0 t.list) ∧ Hid (Below B w wx) ∧ Hid (Kept sb w wx)) (fun i _ => 8 - (intOf i).toNat)
              case atStart => exact ⟨0, Nat.zero_le _, rfl, HM0, HG, HBB, HKP⟩
              case round =>
                clear HM0 HG HBB HKP
                obtain ⟨j, hj, rfl, HW, HG, HB, HKP⟩ := hrel
                by_cases hjt : j < 8
                · obtain ⟨c0, f0⟩ := HW.out j (mixL_len s t j hjt)
                  rw [mixL_get s t j hjt] at c0
                  rw [Nat.zero_add] at c0 f0
                  have c1 := (HG.out j hjt).1
                  rw [Nat.zero_add] at c1
                  have hset := HW.out.set j (add32 (s.list.getD j 0) (t.list.getD j 0)) (mixL_len s t j hjt)
                  rw [mixL_set s t j hjt, Nat.zero_add] at hset
                  have g1 := wrap_add (s.list.getD j 0) (t.list.getD j 0)
                  generalize s.list.getD j 0 = y at *
                  generalize t.list.getD j 0 = x at *
                  have HSE := Lib.hid hset
                  have i8 : (j : Int) < 8 := by omega
                  clear hset
                  go_wp2_with fail
                  go_region
                  clear g1 c0 f0 c1
                  go_wp2
                  go_roundw
                  case rel => exact ⟨j + 1, by omega, by go_num, HSE.out, HG.out.set_ne (a := ⟨sb, j, none⟩) _ hne.out, (HB.out.setCell (p := ⟨sb, j, none⟩) hsb _).drew, HKP.out.set j _⟩
                  case measure => simp [intOf]; omega
                · have hje : j = 8 := by omega
                  have HE : Hid (Wd wr sb 0 (blockW s l).list) := by
                    have := HW.out
                    rw [hje, show mixL s t 8 = (s.add t).list from rfl, HT.out] at this
                    exact this
                  clear hje HW HG
                  go_wp2
                  go_end0
                  exact ⟨rfl, HE.out, HB.out, HKP.out⟩
end Go.Proofs.YtfkpdinfoagfhaaDoor
