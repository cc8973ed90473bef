/-
  Contract of the given program's hashBlock: a block of 64 bytes taken into the state. Conditions: the state lies apart, the table of the rounds stands.
-/
import Derived.Test.YtfkpdinfoagfhaaDoorShaF
import Derived.BigRegion
import Derived.StillTailTactics
import Derived.Deep.DeepCutAuto
namespace Go.Proofs.YtfkpdinfoagfhaaDoor
open Go.ChangeShapes Go.WideShapes Go.ChangeAt Go.RowKit
set_option linter.unusedVariables false
set_option linter.unusedSimpArgs false
set_option maxRecDepth 100000

/-- the table of the rounds stands -/
def Rnd (w : World) : Prop := ∀ i, i < 64 → w.cell? ⟨1, i, none⟩ = some (.int .u32 (ks.getD i 0 : Nat))
theorem Rnd.below {C : Nat} {w w' : World} (h : Rnd w) (hb : Below C w w') (hC : 1 < C) : Rnd w' := fun i hi => by
  rw [cell_congr (hb.block _ hC)]; exact h i hi

theorem Wds.length_list (s : Wds) : s.list.length = 8 := rfl
theorem idx8 (t : Wds) (k : Nat) (hk : k < 8) (w : World) : (Instr.index 60 (.agg #[.int .u32 t.a, .int .u32 t.b, .int .u32 t.c, .int .u32 t.d, .int .u32 t.e, .int .u32 t.f, .int .u32 t.g, .int .u32 t.h]) (.int .i64 (k : Int))).run Tryd.prog w = .ok (.int .u32 (t.list.getD k 0 : Nat)) w := by
  have hn : (0 : Int) ≤ (k : Int) ∧ (k : Int) < ((8 : Nat) : Int) := by omega
  rcases (show k = 0 ∨ k = 1 ∨ k = 2 ∨ k = 3 ∨ k = 4 ∨ k = 5 ∨ k = 6 ∨ k = 7 by omega) with rfl | rfl | rfl | rfl | rfl | rfl | rfl | rfl <;>
    simp [Instr.index, run_underlying Tryd.underlying60, asIntOf, go_sem, Wds.list]
/-- the state while its words are added up -/
def mixL (s t : Wds) (k : Nat) : List Nat := (s.add t).list.take k ++ s.list.drop k
theorem mixL_len (s t : Wds) (k : Nat) (hk : k < 8) : k < (mixL s t k).length := by simp [mixL, Wds.length_list]; omega
theorem mixL_get (s t : Wds) (k : Nat) (hk : k < 8) : (mixL s t k).getD k 0 = s.list.getD k 0 := by
  rcases (show k = 0 ∨ k = 1 ∨ k = 2 ∨ k = 3 ∨ k = 4 ∨ k = 5 ∨ k = 6 ∨ k = 7 by omega) with rfl | rfl | rfl | rfl | rfl | rfl | rfl | rfl <;> rfl
theorem mixL_set (s t : Wds) (k : Nat) (hk : k < 8) : (mixL s t k).set k (add32 (s.list.getD k 0) (t.list.getD k 0)) = mixL s t (k + 1) := by
  rcases (show k = 0 ∨ k = 1 ∨ k = 2 ∨ k = 3 ∨ k = 4 ∨ k = 5 ∨ k = 6 ∨ k = 7 by omega) with rfl | rfl | rfl | rfl | rfl | rfl | rfl | rfl <;> rfl
theorem sched_at {V : World} {wb k : Nat} {l : List UInt8} (hm : Wd V wb 0 (sched l k ++ List.replicate (64 - k) 0)) (hkt : k < 64) :
    (∀ j, j < k → V.cell? ⟨wb, j, none⟩ = some (.int .u32 ((sched l k).getD j 0 : Nat))) ∧ (∃ q : Nat, V.cell? ⟨wb, k, none⟩ = some (.int .u32 q)) ∧ V.frozen? ⟨wb, k, none⟩ = false ∧
    (∀ x : Nat, x = (if k < 16 then word l k else nextW (sched l k) k) → Wd (V.setCell ⟨wb, k, none⟩ (.int .u32 (x : Int))) wb 0 (sched l (k + 1) ++ List.replicate (64 - (k + 1)) 0)) := by
  have hlen : k < (sched l k ++ List.replicate (64 - k) 0).length := by rw [List.length_append, length_sched, List.length_replicate]; omega
  obtain ⟨c0, f0⟩ := hm k hlen
  rw [Nat.zero_add] at c0 f0
  refine ⟨fun j hj => ?_, ⟨_, c0⟩, f0, fun x hx => ?_⟩
  · have := (hm j (by rw [List.length_append, length_sched, List.length_replicate]; omega)).1
    rw [Nat.zero_add, sched_get hj] at this
    exact this
  · have := hm.set k x hlen
    rw [hx, sched_set hkt, Nat.zero_add] at this
    rw [hx]; exact this

set_option maxHeartbeats 4000000 in
theorem hashBlock_any (B sb : Nat) (s : Wds) (b : ByteArray) (w : World) (hs : s.ok) (hb : b.size = 64) (hm : Wd w sb 0 s.list) (hsb : B ≤ sb) (hB : B ≤ w.heap.size) (hsw : sb < w.heap.size) (hR : Rnd w) (hg : 1 < B) :
    Calls Tryd.prog 41 #[.pointer (some ⟨sb, 0, none⟩), .string b] w fun e w' => e = .returned (.tuple #[]) ∧ Wd w' sb 0 (blockW s b.data.toList).list ∧ Below B w w' := by
  have HM := Lib.hid hm
  have HR := Lib.hid hR
  have HS := Lib.hid hs
  have HBG := Lib.hid hg
  clear hm hR hs hg
  go_enter Tryd.func41, Tryd.ntmps41
  go_wp2
  go_loopw [21] (fun i wr => ∃ k : Nat, k ≤ 64 ∧ i = .int .i64 k ∧ Wd wr w.heap.size 0 (sched b.data.toList k ++ List.replicate (64 - k) 0) ∧ Below w.heap.size w wr ∧ w.heap.size < wr.heap.size) (fun i _ => 64 - (intOf i).toNat)
  case atStart =>
    refine ⟨0, Nat.zero_le _, rfl, wd_block (heap_alloc_new _ _) (by rfl), (Below.refl _ _).alloc (Nat.le_refl _) _, by simp⟩
  case round =>
    obtain ⟨k, hk, rfl, hm, hbel, hsz⟩ := hrel
    by_cases hkt : k < 64
    · by_cases hk16 : k < 16
      · obtain ⟨_, ⟨q0, c0⟩, f0, hset⟩ := sched_at hm hkt
        have HSET := Lib.hid hset
        obtain ⟨p, hp⟩ : ∃ p, 4 * k = p := ⟨_, rfl⟩
        obtain ⟨p1, hp1⟩ : ∃ q, p + 1 = q := ⟨_, rfl⟩
        obtain ⟨p2, hp2⟩ : ∃ q, p + 2 = q := ⟨_, rfl⟩
        obtain ⟨p3, hp3⟩ : ∃ q, p + 3 = q := ⟨_, rfl⟩
        have v0 : IntKind.i64.wrap (4 * (k : Int)) = (p : Int) := by rw [IntKind.wrap_i64]; omega
        have v1 : IntKind.i64.wrap ((p : Int) + 1) = (p1 : Int) := by rw [IntKind.wrap_i64]; omega
        have v2 : IntKind.i64.wrap ((p : Int) + 2) = (p2 : Int) := by rw [IntKind.wrap_i64]; omega
        have v3 : IntKind.i64.wrap ((p : Int) + 3) = (p3 : Int) := by rw [IntKind.wrap_i64]; omega
        have l0 : p < 64 := by omega
        have l1 : p1 < 64 := by omega
        have l2 : p2 < 64 := by omega
        have l3 : p3 < 64 := by omega
        obtain ⟨y0, h0⟩ : ∃ y : Nat, (b[p]'(by rw [hb]; exact l0)).toNat = y := ⟨_, rfl⟩
        obtain ⟨y1, h1⟩ : ∃ y : Nat, (b[p1]'(by rw [hb]; exact l1)).toNat = y := ⟨_, rfl⟩
        obtain ⟨y2, h2⟩ : ∃ y : Nat, (b[p2]'(by rw [hb]; exact l2)).toNat = y := ⟨_, rfl⟩
        obtain ⟨y3, h3⟩ : ∃ y : Nat, (b[p3]'(by rw [hb]; exact l3)).toNat = y := ⟨_, rfl⟩
        obtain ⟨x0, x1, x2, z1, z2, a0, a1, a2, a3, b0, b1, b2, d1, d2, d3⟩ := word_facts (l := b.data.toList) (k := k) (y0 := y0) (y1 := y1) (y2 := y2) (y3 := y3) (by rw [hp, bytes_get b (by rw [hb]; exact l0)]; exact h0) (by rw [hp, hp1, bytes_get b (by rw [hb]; exact l1)]; exact h1) (by rw [hp, hp2, bytes_get b (by rw [hb]; exact l2)]; exact h2) (by rw [hp, hp3, bytes_get b (by rw [hb]; exact l3)]; exact h3)
        obtain ⟨x, hx⟩ : ∃ x, word b.data.toList k = x := ⟨_, rfl⟩
        rw [hx] at d3
        have HX : Hid (x = word b.data.toList k) := hx.symm
        have L0 : (p : Int) < 64 := by omega
        have L1 : (p1 : Int) < 64 := by omega
        have L2 : (p2 : Int) < 64 := by omega
        have L3 : (p3 : Int) < 64 := by omega
        clear hp hp1 hp2 hp3 hx hset hm
        go_wp2_with fail
        go_region
        clear a0 a1 a2 a3 b0 b1 b2 d1 d2 d3 h0 h1 h2 h3 v0 v1 v2 v3
        go_wp2
        go_roundw
        case rel => exact ⟨k + 1, by omega, by go_num, HSET.out x (by rw [if_pos hk16]; exact HX.out), (hbel.setCell (p := ⟨w.heap.size, k, none⟩) (Nat.le_refl _) _).drew, by simpa [World.setCell] using hsz⟩
        case measure => simp [intOf]; omega
      · obtain ⟨k15, hk15⟩ : ∃ j, k - 15 = j := ⟨_, rfl⟩
        obtain ⟨k2, hk2⟩ : ∃ j, k - 2 = j := ⟨_, rfl⟩
        obtain ⟨k16, hkk⟩ : ∃ j, k - 16 = j := ⟨_, rfl⟩
        obtain ⟨k7, hk7⟩ : ∃ j, k - 7 = j := ⟨_, rfl⟩
        have v15 : IntKind.i64.wrap ((k : Int) - 15) = (k15 : Int) := by rw [IntKind.wrap_i64]; omega
        have v2 : IntKind.i64.wrap ((k : Int) - 2) = (k2 : Int) := by rw [IntKind.wrap_i64]; omega
        have v16 : IntKind.i64.wrap ((k : Int) - 16) = (k16 : Int) := by rw [IntKind.wrap_i64]; omega
        have v7 : IntKind.i64.wrap ((k : Int) - 7) = (k7 : Int) := by rw [IntKind.wrap_i64]; omega
        obtain ⟨hcell, _, _, _⟩ := sched_at hm hkt
        have c15 := hcell k15 (by omega)
        have c2 := hcell k2 (by omega)
        have t15 := getD_lt (sched_lt b.data.toList k) k15
        have t2 := getD_lt (sched_lt b.data.toList k) k2
        have hnext : Hid (nextW (sched b.data.toList k) k = add32 (add32 (add32 ((sched b.data.toList k).getD k16 0) (sg0 ((sched b.data.toList k).getD k15 0))) ((sched b.data.toList k).getD k7 0)) (sg1 ((sched b.data.toList k).getD k2 0))) := by
          show _ = _
          rw [nextW, hk15, hk2, hkk, hk7]
        generalize (sched b.data.toList k).getD k15 0 = x15 at *
        generalize (sched b.data.toList k).getD k2 0 = x2 at *
        obtain ⟨x16, hx16⟩ : ∃ x, (sched b.data.toList k).getD k16 0 = x := ⟨_, rfl⟩
        obtain ⟨x7, hx7⟩ : ∃ x, (sched b.data.toList k).getD k7 0 = x := ⟨_, rfl⟩
        rw [hx16, hx7] at hnext
        have HX16 := Lib.hid hx16
        have HX7 := Lib.hid hx7
        have HL16 : Hid (k16 < k) := by show _ < _; omega
        have HL7 : Hid (k7 < k) := by show _ < _; omega
        have HMD : Hid (Wd wr.drew w.heap.size 0 (sched b.data.toList k ++ List.replicate (64 - k) 0)) := hm
        obtain ⟨t1, e1, e2⟩ := sg0_facts t15
        obtain ⟨t3, e3, e4⟩ := sg1_facts t2
        have r7 := fun w => still_eq (turned_any x15 7 w t15 (by decide) (by decide))
        have r18 := fun w => still_eq (turned_any x15 18 w t15 (by decide) (by decide))
        have r17 := fun w => still_eq (turned_any x2 17 w t2 (by decide) (by decide))
        have r19 := fun w => still_eq (turned_any x2 19 w t2 (by decide) (by decide))
        have g1 := wrap_add x16 (sg0 x15)
        have g2 := wrap_add (add32 x16 (sg0 x15)) x7
        have g3 := wrap_add (add32 (add32 x16 (sg0 x15)) x7) (sg1 x2)
        obtain ⟨x, hx⟩ : ∃ x, add32 (add32 (add32 x16 (sg0 x15)) x7) (sg1 x2) = x := ⟨_, rfl⟩
        rw [hx] at g3
        rw [hx] at hnext
        have L15 : (k15 : Int) < 64 := by omega
        have L2 : (k2 : Int) < 64 := by omega
        have L16 : (k16 : Int) < 64 := by omega
        have L7 : (k7 : Int) < 64 := by omega
        clear hk15 hk2 hkk hk7 hx hm hcell hx16 hx7
        have HBD : Hid (Below w.heap.size w wr.drew) := hbel.drew
        have hszd : w.heap.size < wr.drew.heap.size := hsz
        go_wp2_with fail
        go_region
        clear hbel hsz c15 c2
        generalize wr.drew = V at *
        obtain ⟨hcell, ⟨q0, c0⟩, f0, hset⟩ := sched_at HMD.out hkt
        have HSET := Lib.hid hset
        have c16 := hcell k16 HL16.out
        rw [HX16.out] at c16
        have c7 := hcell k7 HL7.out
        rw [HX7.out] at c7
        clear hcell hset
        go_wp2_with fail
        refine wp_region_still_tail 29 (by kernel_rfl) (by kernel_rfl) ?_
        simp only [List.take_succ_cons, List.take_zero, List.drop_succ_cons, List.drop_zero]
        repeat still_step
        still_call (r7 _)
        repeat still_step
        still_call (r18 _)
        repeat still_step
        still_call (r17 _)
        repeat still_step
        still_call (r19 _)
        repeat still_step
        refine wpStill_nil ?_
        change wpList _ _ _ _ _ V.drew
        clear c16 c7 g1 g2 g3 e1 e2 e3 e4 r7 r17 r18 r19
        go_wp2
        go_roundw
        case rel => exact ⟨k + 1, by omega, by go_num, HSET.out x (by rw [if_neg hk16]; exact hnext.out.symm), HBD.out.drew.setCell (p := ⟨w.heap.size, k, none⟩) (Nat.le_refl _) _, by simpa [World.setCell] using hszd⟩
        case measure => simp [intOf]; omega
    · obtain rfl : k = 64 := by omega
      have HWB := Lib.hid hm
      obtain ⟨wb, hwb⟩ : ∃ n, w.heap.size = n := ⟨_, rfl⟩
      have HMS := Lib.hid (HM.out.below hbel hsw)
      have HRR := Lib.hid (HR.out.below hbel (by have := HBG.out; omega))
      have hss := HMS.out
      have m0 := (hss 0 (by rw [Wds.length_list]; decide)).1
      have m1 := (hss 1 (by rw [Wds.length_list]; decide)).1
      have m2 := (hss 2 (by rw [Wds.length_list]; decide)).1
      have m3 := (hss 3 (by rw [Wds.length_list]; decide)).1
      have m4 := (hss 4 (by rw [Wds.length_list]; decide)).1
      have m5 := (hss 5 (by rw [Wds.length_list]; decide)).1
      have m6 := (hss 6 (by rw [Wds.length_list]; decide)).1
      have m7 := (hss 7 (by rw [Wds.length_list]; decide)).1
      simp only [Wds.list, List.getD_cons_zero, List.getD_cons_succ, Nat.zero_add] at m0 m1 m2 m3 m4 m5 m6 m7
      clear hm hss hwb wb
      have HB1 : Hid (Below w.heap.size w wr.drew) := hbel.drew
      have HS1 : w.heap.size < wr.drew.heap.size := hsz
      have HWB1 : Hid (Wd wr.drew w.heap.size 0 (sched b.data.toList 64 ++ List.replicate (64 - 64) 0)) := HWB.out
      have HMS1 : Hid (Wd wr.drew sb 0 s.list) := HMS.out
      have HRR1 : Hid (Rnd wr.drew) := HRR.out
      clear hbel hsz HWB HMS HRR HM HR
      go_wp2_with fail
      go_still (by kernel_rfl)
      change Exit.then _ _ Exit.normal _ wr.drew
      clear m0 m1 m2 m3 m4 m5 m6 m7
      generalize wr.drew = V at *
      go_wp2_with fail
      go_loopw [8, 9, 10, 11, 12, 13, 14, 15, 127] (fun va vb vc vd ve vf vg vh i wr => ∃ k : Nat, k ≤ 64 ∧ i = .int .i64 k ∧ ∃ t : Wds, t.ok ∧ va = .int .u32 t.a ∧ vb = .int .u32 t.b ∧ vc = .int .u32 t.c ∧ vd = .int .u32 t.d ∧ ve = .int .u32 t.e ∧ vf = .int .u32 t.f ∧ vg = .int .u32 t.g ∧ vh = .int .u32 t.h ∧ Hid (t = rounds s (sched b.data.toList 64) k) ∧ Hid (Wd wr w.heap.size 0 (sched b.data.toList 64 ++ List.replicate (64 - 64) 0)) ∧ Hid (Wd wr sb 0 s.list) ∧ Hid (Rnd wr) ∧ Hid (Below w.heap.size w wr) ∧ w.heap.size < wr.heap.size) (fun _ _ _ _ _ _ _ _ i _ => 64 - (intOf i).toNat)
      case atStart => exact ⟨0, Nat.zero_le _, rfl, s, HS.out, rfl, rfl, rfl, rfl, rfl, rfl, rfl, rfl, rfl, HWB1, HMS1, HRR1, HB1, HS1⟩
      case round =>
        obtain ⟨k, hk, rfl, t, ⟨ha, hb2, hc, hd, he, hf, hg, hh⟩, rfl, rfl, rfl, rfl, rfl, rfl, rfl, rfl, ht, HW, HM, HR, HB2, hsz⟩ := hrel
        by_cases hkt : k < 64
        · obtain ⟨y, hy⟩ : ∃ y, ks.getD k 0 = y := ⟨_, rfl⟩
          obtain ⟨x, hx⟩ : ∃ x, (sched b.data.toList 64).getD k 0 = x := ⟨_, rfl⟩
          have cy := HR.out k hkt
          rw [hy] at cy
          have cx := (HW.out k (by rw [List.length_append, length_sched, List.length_replicate]; omega)).1
          rw [Nat.zero_add, sched_get hkt, hx] at cx
          have hstep : Hid (rounds s (sched b.data.toList 64) (k + 1) = t.step y x) := by
            show _ = _
            rw [rounds, ← ht.out, hy, hx]
          have HOK : Hid (t.step y x).ok := Wds.step_ok ⟨ha, hb2, hc, hd, he, hf, hg, hh⟩ y x
          obtain ⟨t1, e1, e2⟩ := bs1_facts he
          obtain ⟨t2, e3, e4⟩ := bs0_facts ha
          obtain ⟨i1, i2, i3, j1, j2, j3, j4, _⟩ := ch_facts he hf hg
          have j5 : bits BinOp.xor IntKind.u32 (if IntKind.u32.signed = true then -1 else IntKind.u32.max) (t.e : Int) = (i2 : Int) := j2
          have j6 : bits BinOp.xor IntKind.u32 IntKind.u32.max (t.e : Int) = (i2 : Int) := j2
          obtain ⟨n1, n2, n3, n4, n5, o1, o2, o3, o4, o5, _, _⟩ := maj_facts ha hb2 hc
          have r6 := fun w => still_eq (turned_any t.e 6 w he (by decide) (by decide))
          have r11 := fun w => still_eq (turned_any t.e 11 w he (by decide) (by decide))
          have r25 := fun w => still_eq (turned_any t.e 25 w he (by decide) (by decide))
          have g1 := wrap_add t.h (bs1 t.e)
          have g2 := wrap_add (add32 t.h (bs1 t.e)) (ch t.e t.f t.g)
          have g3 := wrap_add (add32 (add32 t.h (bs1 t.e)) (ch t.e t.f t.g)) y
          have g4 := wrap_add (add32 (add32 (add32 t.h (bs1 t.e)) (ch t.e t.f t.g)) y) x
          have g5 := wrap_add (bs0 t.a) (maj t.a t.b t.c)
          obtain ⟨p, hp⟩ : ∃ p, pOf t y x = p := ⟨_, rfl⟩
          obtain ⟨q, hq⟩ : ∃ q, qOf t = q := ⟨_, rfl⟩
          rw [show add32 (add32 (add32 (add32 t.h (bs1 t.e)) (ch t.e t.f t.g)) y) x = p from hp] at g4
          rw [show add32 (bs0 t.a) (maj t.a t.b t.c) = q from hq] at g5
          have g6 := wrap_add t.d p
          have g7 := wrap_add p q
          have HST : Hid (t.step y x = ⟨add32 p q, t.a, t.b, t.c, add32 t.d p, t.e, t.f, t.g⟩) := by
            show _ = _
            rw [Wds.step, hp, hq]
          have HA := Lib.hid ha
          clear ht hy hx hp hq HWB1 HMS1 HRR1 HB1 HS1
          go_wp2_with fail
          refine wp_region_still_lit (by kernel_rfl) (by kernel_rfl) ?_
          repeat still_step
          still_call (r6 _)
          repeat still_step
          still_call (r11 _)
          repeat still_step
          still_call (r25 _)
          repeat still_step
          refine wpStill_nil ?_
          change Exit.then _ _ Exit.normal _ wr.drew
          have HW2 : Hid (Wd wr.drew w.heap.size 0 (sched b.data.toList 64 ++ List.replicate (64 - 64) 0)) := HW.out
          have HM2 : Hid (Wd wr.drew sb 0 s.list) := HM.out
          have HR2 : Hid (Rnd wr.drew) := HR.out
          have HB3 : Hid (Below w.heap.size w wr.drew) := HB2.out.drew
          have HS2 : w.heap.size < wr.drew.heap.size := hsz
          clear r6 r11 r25 g1 g2 g3 g4 e1 e2 j1 j2 j3 j4 j5 j6 HW HM HR HB2 hsz cx cy
          generalize wr.drew = V at *
          go_wp2_with fail
          refine (turned_any t.a 2 _ HA.out (by decide) (by decide)).mono ?_
          rintro e1 w1 ⟨rfl, rfl⟩
          go_wp2_with fail
          refine (turned_any t.a 13 _ HA.out (by decide) (by decide)).mono ?_
          rintro e1 w1 ⟨rfl, rfl⟩
          go_wp2_with fail
          refine (turned_any t.a 22 _ HA.out (by decide) (by decide)).mono ?_
          rintro e1 w1 ⟨rfl, rfl⟩
          go_wp2
          go_roundw
          case rel => exact ⟨k + 1, by omega, by go_num, ⟨add32 p q, t.a, t.b, t.c, add32 t.d p, t.e, t.f, t.g⟩, by rw [← HST.out]; exact HOK.out, rfl, rfl, rfl, rfl, rfl, rfl, rfl, rfl, by show _ = _; rw [hstep.out, HST.out], HW2, HM2, HR2, HB3, HS2⟩
          case measure => simp [intOf]; omega
        · obtain rfl : k = 64 := by omega
          have HBB : Hid (Below B w wr) := HB2.out.mono hB
          have HSB : sb < wr.heap.size := by omega
          have HM0 : Hid (Wd wr sb 0 (mixL s t 0)) := HM.out
          clear HW HR HB2 HM HWB1 HMS1 HRR1 HB1 HS1 ha hb2 hc hd he hf hg hh
          go_wp2
          go_loopw [199] (fun i wx => ∃ k : Nat, k ≤ 8 ∧ i = .int .i64 k ∧ Hid (Wd wx sb 0 (mixL s t k)) ∧ Hid (Below B w wx)) (fun i _ => 8 - (intOf i).toNat)
          case atStart => exact ⟨0, Nat.zero_le _, rfl, HM0, HBB⟩
          case round =>
            obtain ⟨k, hk, rfl, HW, HB⟩ := hrel
            by_cases hkt : k < 8
            · obtain ⟨c0, f0⟩ := HW.out k (mixL_len s t k hkt)
              rw [mixL_get s t k hkt] at c0
              rw [Nat.zero_add] at c0 f0
              have hset := HW.out.set k (add32 (s.list.getD k 0) (t.list.getD k 0)) (mixL_len s t k hkt)
              rw [mixL_set s t k hkt, Nat.zero_add] at hset
              have hx := idx8 t k hkt wr
              have g1 := wrap_add (s.list.getD k 0) (t.list.getD k 0)
              generalize s.list.getD k 0 = y at *
              generalize t.list.getD k 0 = x at *
              have HSE := Lib.hid hset
              have i8 : (k : Int) < 8 := by omega
              clear hset
              go_wp2_with fail
              go_region
              clear hx g1 c0 f0
              go_wp2
              go_roundw
              case rel => exact ⟨k + 1, by omega, by go_num, HSE.out, (HB.out.setCell (p := ⟨sb, k, none⟩) hsb _).drew⟩
              case measure => simp [intOf]; omega
            · obtain rfl : k = 8 := by omega
              go_wp2
              go_end0
              refine ⟨rfl, ?_, HB.out⟩
              have := HW.out
              rw [show mixL s t 8 = (s.add t).list from rfl, ht.out] at this
              exact this
end Go.Proofs.YtfkpdinfoagfhaaDoor
