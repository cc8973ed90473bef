/-
  Contracts of readCommand of the given program and of l06Read of its reference. Conditions: a bound on the length.
-/
import Derived.Test.YtceaanampdcaeaaReadCmdPlain
import Derived.Deep.RegionHeld3
namespace Go.Proofs.Ytceaanampdcaeaa
open Go.ChangeShapes Go.WideShapes Go.ChangeAt Go.RowKit
set_option linter.unusedVariables false
set_option linter.unusedSimpArgs false

def CmdD.arr (c : CmdD) : Array Value := #[.int .i64 c.k, .int .i64 c.cl, .int .i64 c.sq, .int .i64 c.pn, .int .i64 c.n, .int .i64 c.ep, .bool c.rw, .string c.nm, .string c.dt]
theorem box_free {b : Nat} {W : World} {cs : Array Value} {t : TypeId} (h : W.heap[b]? = some (.cells cs t (0, 0))) : ∀ i, W.frozen? ⟨b, i, none⟩ = false := fun i => by simp [World.frozen?, h]

theorem someNumbers_no (s : ByteArray) (w : World) (hs : s.size ≤ 65536) (h : s.size ≠ 21) :
    Calls Try.prog 53 #[.string s, .int .i64 7] w fun e w' => e = .returned (.tuple #[.slice none 0 0, .bool false]) ∧ w = w' := by
  have h1 : ((s.size : Int) != 21) = true := by simp; omega
  go_enter Try.func53, Try.ntmps53
  go_wp2
  go_ret2
  exact ⟨rfl, rfl⟩
theorem someNumbers_yes (s : ByteArray) (w : World) (h : s.size = 21) :
    Calls Try.prog 53 #[.string s, .int .i64 7] w fun e w' => ∃ ao cap, e = .returned (.tuple #[.slice ao 7 cap, .bool true]) ∧ Mine w.heap.size w' ao (i64s (readL 7 s.data.toList)) ∧ Below w.heap.size w w' := by
  have h1 : ((s.size : Int) != 21) = false := by simp; omega
  have H := Lib.hid h
  clear h
  go_enter Try.func53, Try.ntmps53
  go_wp2_with fail
  refine (readNumbers_any s 7 _ H.out (by omega)).mono ?_
  rintro e w1 ⟨ao, cap, rfl, hm, hb⟩
  go_wp2
  go_ret2
  exact ⟨ao, cap, rfl, hm, hb⟩

theorem isCommand_val (k cl sq pn n ep : Int) (rw : Bool) (nm dt : ByteArray) (b : Bool) (w : World) (h1 : nm.size ≤ maxLen) (h2 : dt.size ≤ maxLen) (hb : cmdB k cl sq pn n ep rw nm dt = b) :
    Calls Try.prog 27 #[.agg #[.int .i64 k, .int .i64 cl, .int .i64 sq, .int .i64 pn, .int .i64 n, .int .i64 ep, .bool rw, .string nm, .string dt]] w fun e w' => e = .returned (.bool b) ∧ Below w.heap.size w w' := by
  subst hb; exact isCommand_any k cl sq pn n ep rw nm dt w h1 h2
theorem specOK_val (k cl sq pn n ep : Int) (rw : Bool) (nm dt : ByteArray) (b : Bool) (w : World) (h1 : nm.size ≤ maxLen) (h2 : dt.size ≤ maxLen) (hb : cmdB k cl sq pn n ep rw nm dt = b) :
    Calls Try.prog 8 #[.agg #[.int .i64 k, .int .i64 cl, .int .i64 sq, .int .i64 pn, .int .i64 n, .int .i64 ep, .bool rw, .string nm, .string dt]] w fun e w' => e = .returned (.bool b) ∧ Below w.heap.size w w' := by
  subst hb; exact specCommandOK_any k cl sq pn n ep rw nm dt w h1 h2
theorem commandText_val (k cl sq pn n ep : Int) (rw : Bool) (nm dt : ByteArray) (T : ByteArray) (w : World) (h : CmdFits k cl sq pn n ep nm dt) (hT : T = ⟨(cmdL k cl sq pn n ep rw nm dt).toArray⟩) :
    Calls Try.prog 29 #[.agg #[.int .i64 k, .int .i64 cl, .int .i64 sq, .int .i64 pn, .int .i64 n, .int .i64 ep, .bool rw, .string nm, .string dt]] w fun e w' => e = .returned (.string T) ∧ Below w.heap.size w w' := by
  subst hT; exact commandText_any k cl sq pn n ep rw nm dt w h

def ReadPost (w : World) (o : Option CmdD) (e : Ending) (w' : World) : Prop :=
  ∃ c : CmdD, e = .returned (.tuple #[.agg c.arr, .bool o.isSome]) ∧ (∀ d, o = some d → c = d) ∧ Below w.heap.size w w'
theorem readPost {w : World} {o : Option CmdD} {e : Ending} {w' : World} (c : CmdD) (b : Bool) (hb : o.isSome = b) (he : e = .returned (.tuple #[.agg c.arr, .bool b])) (hd : ∀ d, o = some d → c = d) (hB : Below w.heap.size w w') : ReadPost w o e w' := by
  subst hb; exact ⟨c, he, hd, hB⟩
theorem some_none {c : CmdD} : ∀ d, (none : Option CmdD) = some d → c = d := fun d h => by cases h
theorem some_same {c : CmdD} : ∀ d, some c = some d → c = d := fun d h => by cases h; rfl

theorem set9 {B b : Nat} {w W : World} (h : Below B w W) (hb : B ≤ b) (v0 v1 v2 v3 v4 v5 v6 v7 v8 : Value) :
    Below B w (((((((((W.setCell ⟨b, 0, none⟩ v0).setCell ⟨b, 1, none⟩ v1).setCell ⟨b, 2, none⟩ v2).setCell ⟨b, 3, none⟩ v3).setCell ⟨b, 4, none⟩ v4).setCell ⟨b, 5, none⟩ v5).setCell ⟨b, 6, none⟩ v6).setCell ⟨b, 7, none⟩ v7).setCell ⟨b, 8, none⟩ v8) :=
  ((((((((h.setCell (p := ⟨b, 0, none⟩) hb v0).setCell (p := ⟨b, 1, none⟩) hb v1).setCell (p := ⟨b, 2, none⟩) hb v2).setCell (p := ⟨b, 3, none⟩) hb v3).setCell (p := ⟨b, 4, none⟩) hb v4).setCell (p := ⟨b, 5, none⟩) hb v5).setCell (p := ⟨b, 6, none⟩) hb v6).setCell (p := ⟨b, 7, none⟩) hb v7).setCell (p := ⟨b, 8, none⟩) hb v8

set_option maxHeartbeats 2000000 in
set_option maxRecDepth 100000 in
theorem readCommand_any (s : ByteArray) (w : World) (hs : s.size ≤ 65536) :
    Calls Try.prog 32 #[.string s] w (ReadPost w (rdC s)) := by
  have hb0 : Below w.heap.size w (w.alloc (.cells CmdD.zero.arr 26)) := (Below.refl _ _).alloc (Nat.le_refl _) _
  have HR := Lib.hid (readFields_any s (w.alloc (.cells CmdD.zero.arr 26)) hs)
  cases hF : fieldsF s with
  | none =>
    have HN := Lib.hid (rdC_none hF)
    rw [hF] at HR
    clear hF
    rw [HN.out]
    go_enter Try.func32, Try.ntmps32
    go_wp2_with fail
    refine HR.out.mono ?_
    rintro e w1 ⟨a1, n1, c1, rfl, _, hb1⟩
    have hz1 : w.heap.size + 1 ≤ w1.heap.size := by have := hb1.size; simpa using this
    have B1 : Below w.heap.size w w1 := hb0.trans (hb1.mono (by simp))
    have X1 := Lib.hid (box_below (box_new w (.cells CmdD.zero.arr 26)) hb1 (by simp))
    have x1 := box_cells X1.out
    have f1 := box_free X1.out
    unfold CmdD.zero CmdD.arr at x1
    go_wp2
    exact bodyPost_ret (v := .tuple #[.agg CmdD.zero.arr, .bool false]) (by simp [results, Try.results32, CmdD.arr, CmdD.zero, x1, go_sem]) rfl (readPost CmdD.zero false rfl rfl some_none (set9 B1 (Nat.le_refl _) _ _ _ _ _ _ _ _ _))
  | some zs =>
    rw [hF] at HR
    by_cases hl : zs.length = 3
    case neg =>
      have HN := Lib.hid (rdC_count hF hl)
      clear hF
      rw [HN.out]
      go_enter Try.func32, Try.ntmps32
      go_wp2_with fail
      refine HR.out.mono ?_
      rintro e w1 ⟨a1, n1, c1, rfl, hx, hb1⟩
      have hn3 : ((n1 : Int) != 3) = true := by have := (hx zs rfl).1; simp; omega
      clear hx hl
      have hz1 : w.heap.size + 1 ≤ w1.heap.size := by have := hb1.size; simpa using this
      have B1 : Below w.heap.size w w1 := hb0.trans (hb1.mono (by simp))
      have X1 := Lib.hid (box_below (box_new w (.cells CmdD.zero.arr 26)) hb1 (by simp))
      have x1 := box_cells X1.out
      have f1 := box_free X1.out
      unfold CmdD.zero CmdD.arr at x1
      go_wp2
      exact bodyPost_ret (v := .tuple #[.agg CmdD.zero.arr, .bool false]) (by simp [results, Try.results32, CmdD.arr, CmdD.zero, x1, go_sem]) rfl (readPost CmdD.zero false rfl rfl some_none (set9 B1 (Nat.le_refl _) _ _ _ _ _ _ _ _ _))
    case pos =>
      obtain ⟨s0, s1, s2, rfl⟩ := three zs hl
      have hsz := fieldsF_small hF
      have z0 : s0.size ≤ 20000 := hsz s0 (by simp)
      have z1 : s1.size ≤ 20000 := hsz s1 (by simp)
      have z2 : s2.size ≤ 20000 := hsz s2 (by simp)
      clear hl hsz
      by_cases h21 : s0.size = 21
      case neg =>
        have HN := Lib.hid (rdC_size hF h21)
        have H21 := Lib.hid h21
        clear hF h21
        rw [HN.out]
        go_enter Try.func32, Try.ntmps32
        go_wp2_with fail
        refine HR.out.mono ?_
        rintro e w1 ⟨a1, n1, c1, rfl, hx, hb1⟩
        obtain ⟨hn1, hm1⟩ := hx _ rfl
        obtain rfl : n1 = 3 := hn1.symm
        obtain ⟨b1, o1, rfl, hc⟩ := hm1.at.get (by simp [strs])
        have d0 : w1.cell? ⟨b1, o1, none⟩ = some (.string s0) := hc 0 (by simp [strs])
        clear hx hm1 hn1 hc
        have hz1 : w.heap.size + 1 ≤ w1.heap.size := by have := hb1.size; simpa using this
        have B1 : Below w.heap.size w w1 := hb0.trans (hb1.mono (by simp))
        have X1 := Lib.hid (box_below (box_new w (.cells CmdD.zero.arr 26)) hb1 (by simp))
        have x1 := box_cells X1.out
        have f1 := box_free X1.out
        unfold CmdD.zero CmdD.arr at x1
        go_wp2_with fail
        refine (someNumbers_no s0 w1 (by omega) H21.out).mono ?_
        rintro e w' ⟨rfl, rfl⟩
        go_wp2
        exact bodyPost_ret (v := .tuple #[.agg CmdD.zero.arr, .bool false]) (by simp [results, Try.results32, CmdD.arr, CmdD.zero, x1, go_sem]) rfl (readPost CmdD.zero false rfl rfl some_none (set9 B1 (Nat.le_refl _) _ _ _ _ _ _ _ _ _))
      case pos =>
        obtain ⟨a0, a1, a2, a3, a4, a5, a6, hns⟩ := seven (readL 7 s0.data.toList) (length_readL _ _)
        have hrd := rdC_of hF h21 hns
        have htx := fun hc => cmdText_eq hF h21 hns hc
        have b4 := readL_small 7 s0.data.toList a4 (by rw [hns]; simp)
        obtain ⟨r, hr⟩ : ∃ r, (a6 == 1) = r := ⟨_, rfl⟩
        rw [hr] at hrd htx
        obtain ⟨hb4, hb5⟩ := b4
        have v1 : IntKind.i64.wrap (a4 - 1000) = a4 - 1000 := by rw [IntKind.wrap_i64]; omega
        have H21 := Lib.hid h21
        have HNS := Lib.hid hns
        have HRD := Lib.hid hrd
        have HTX := Lib.hid htx
        obtain ⟨o, ho⟩ : ∃ o, rdC s = o := ⟨_, rfl⟩
        rw [ho] at HRD ⊢
        clear hF hns hrd htx h21 ho
        go_enter Try.func32, Try.ntmps32
        go_wp2_with fail
        refine HR.out.mono ?_
        rintro e w1 ⟨p1, n1, c1, rfl, hx, hb1⟩
        obtain ⟨hn1, hm1⟩ := hx _ rfl
        obtain rfl : n1 = 3 := hn1.symm
        obtain ⟨b1, o1, rfl, hc⟩ := hm1.at.get (by simp [strs])
        have d0 : w1.cell? ⟨b1, o1, none⟩ = some (.string s0) := hc 0 (by simp [strs])
        have d1 : w1.cell? ⟨b1, o1 + 1, none⟩ = some (.string s1) := hc 1 (by simp [strs])
        have d2 : w1.cell? ⟨b1, o1 + 2, none⟩ = some (.string s2) := hc 2 (by simp [strs])
        have hbl : b1 < w1.heap.size := World.block_lt_of_cell? w1 _ d0
        clear hx hm1 hn1 hc
        have hz1 : w.heap.size + 1 ≤ w1.heap.size := by have := hb1.size; simpa using this
        have B1 : Below w.heap.size w w1 := hb0.trans (hb1.mono (by simp))
        have X1 := Lib.hid (box_below (box_new w (.cells CmdD.zero.arr 26)) hb1 (by simp))
        have x1 := box_cells X1.out
        have f1 := box_free X1.out
        unfold CmdD.zero CmdD.arr at x1
        go_wp2_with fail
        refine (someNumbers_yes s0 w1 H21.out).mono ?_
        rintro e w2 ⟨p2, c2, rfl, hm2, hb2⟩
        rw [HNS.out] at hm2
        obtain ⟨b2, o2, rfl, hc⟩ := hm2.at.get (by simp [i64s])
        have hz2 := hb2.size
        have e1 : w2.cell? ⟨b1, o1 + 1, none⟩ = some (.string s1) := (hb2.cell (p := ⟨b1, o1 + 1, none⟩) hbl).trans d1
        have e2 : w2.cell? ⟨b1, o1 + 2, none⟩ = some (.string s2) := (hb2.cell (p := ⟨b1, o1 + 2, none⟩) hbl).trans d2
        have i0 : w2.cell? ⟨b2, o2, none⟩ = some (.int .i64 a0) := hc 0 (by simp [i64s])
        have i1 : w2.cell? ⟨b2, o2 + 1, none⟩ = some (.int .i64 a1) := hc 1 (by simp [i64s])
        have i2 : w2.cell? ⟨b2, o2 + 2, none⟩ = some (.int .i64 a2) := hc 2 (by simp [i64s])
        have i3 : w2.cell? ⟨b2, o2 + 3, none⟩ = some (.int .i64 a3) := hc 3 (by simp [i64s])
        have i4 : w2.cell? ⟨b2, o2 + 4, none⟩ = some (.int .i64 a4) := hc 4 (by simp [i64s])
        have i5 : w2.cell? ⟨b2, o2 + 5, none⟩ = some (.int .i64 a5) := hc 5 (by simp [i64s])
        have i6 : w2.cell? ⟨b2, o2 + 6, none⟩ = some (.int .i64 a6) := hc 6 (by simp [i64s])
        have B2 : Below w.heap.size w w2 := B1.trans (hb2.mono (by omega))
        have X2 := Lib.hid (box_below X1.out hb2 (by omega))
        clear hc hm2 d0 d1 d2 x1 f1 X1 B1 hb1 hb2
        go_wp2_with fail
        have ne0 := World.new_ne w2 _ i0
        have ne1 := World.new_ne w2 _ i1
        have ne2 := World.new_ne w2 _ i2
        have ne3 := World.new_ne w2 _ i3
        have ne4 := World.new_ne w2 _ i4
        have ne5 := World.new_ne w2 _ i5
        have ne6 := World.new_ne w2 _ i6
        have ne7 := World.new_ne w2 _ e1
        have ne8 := World.new_ne w2 _ e2
        go_region_held3 (fun w' => w'.cell? ⟨b2, o2, none⟩ = some (.int .i64 a0) ∧ w'.cell? ⟨b2, o2 + 1, none⟩ = some (.int .i64 a1) ∧ w'.cell? ⟨b2, o2 + 2, none⟩ = some (.int .i64 a2) ∧ w'.cell? ⟨b2, o2 + 3, none⟩ = some (.int .i64 a3) ∧ w'.cell? ⟨b2, o2 + 4, none⟩ = some (.int .i64 a4) ∧ w'.cell? ⟨b2, o2 + 5, none⟩ = some (.int .i64 a5) ∧ w'.cell? ⟨b2, o2 + 6, none⟩ = some (.int .i64 a6) ∧ w'.cell? ⟨b1, o1 + 1, none⟩ = some (.string s1) ∧ w'.cell? ⟨b1, o1 + 2, none⟩ = some (.string s2)) (go_keep) (fail)
        have X3 : Hid ((w2.alloc (.cells #[.int .i64 a0, .int .i64 a1, .int .i64 a2, .int .i64 a3, .int .i64 (a4 - 1000), .int .i64 a5, .bool r, .string s1, .string s2] 26)).drew.heap[w.heap.size]? = some (.cells CmdD.zero.arr 26)) := (Below.heap_alloc w2 _ w.heap.size (by have := box_lt X2.out; omega)).trans X2.out
        have Y3 : Hid ((w2.alloc (.cells #[.int .i64 a0, .int .i64 a1, .int .i64 a2, .int .i64 a3, .int .i64 (a4 - 1000), .int .i64 a5, .bool r, .string s1, .string s2] 26)).drew.heap[w2.heap.size]? = some (.cells #[.int .i64 a0, .int .i64 a1, .int .i64 a2, .int .i64 a3, .int .i64 (a4 - 1000), .int .i64 a5, .bool r, .string s1, .string s2] 26)) := box_new w2 _
        have hz3 : (w2.alloc (.cells #[.int .i64 a0, .int .i64 a1, .int .i64 a2, .int .i64 a3, .int .i64 (a4 - 1000), .int .i64 a5, .bool r, .string s1, .string s2] 26)).drew.heap.size = w2.heap.size + 1 := by show (w2.alloc _).heap.size = _; simp
        have B3 : Below w.heap.size w (w2.alloc (.cells #[.int .i64 a0, .int .i64 a1, .int .i64 a2, .int .i64 a3, .int .i64 (a4 - 1000), .int .i64 a5, .bool r, .string s1, .string s2] 26)).drew := (B2.alloc B2.size _).drew
        clear ne0 ne1 ne2 ne3 ne4 ne5 ne6 ne7 ne8 i0 i1 i2 i3 i4 i5 i6 e1 e2 X2 B2
        rename_i hheld
        clear hheld
        generalize (w2.alloc (.cells #[.int .i64 a0, .int .i64 a1, .int .i64 a2, .int .i64 a3, .int .i64 (a4 - 1000), .int .i64 a5, .bool r, .string s1, .string s2] 26)).drew = w3 at *
        have y3 := box_cells Y3.out
        cases hcb : cmdB a0 a1 a2 a3 (a4 - 1000) a5 r s1 s2
        case false =>
          have HO : Hid (o = none) := by show _ = _; rw [HRD.out, hcb]; simp
          have HCB := Lib.hid hcb
          clear hcb HTX
          go_wp2_with fail
          refine (isCommand_val a0 a1 a2 a3 (a4 - 1000) a5 r s1 s2 false _ (by unfold maxLen; omega) (by unfold maxLen; omega) HCB.out).mono ?_
          rintro e w4 ⟨rfl, hb4'⟩
          have hz4 := hb4'.size
          have B4 : Below w.heap.size w w4 := B3.trans (hb4'.mono (by omega))
          have X4 := Lib.hid (box_below X3.out hb4' (by omega))
          have Y4 := Lib.hid (box_below Y3.out hb4' (by omega))
          have x4 := box_cells X4.out
          have f4 := box_free X4.out
          have y4 := box_cells Y4.out
          unfold CmdD.zero CmdD.arr at x4
          clear y3
          go_wp2
          exact bodyPost_ret (v := .tuple #[.agg CmdD.zero.arr, .bool false]) (by simp [results, Try.results32, CmdD.arr, CmdD.zero, x4, go_sem]) rfl (readPost CmdD.zero false (by rw [HO.out]; rfl) rfl (by rw [HO.out]; exact some_none) (set9 B4 (Nat.le_refl _) _ _ _ _ _ _ _ _ _))
        case true =>
          have HT := Lib.hid (HTX.out hcb)
          have HFI := Lib.hid (cmdB_fits hcb)
          obtain ⟨T, hT⟩ : ∃ T : ByteArray, T = ⟨(cmdL a0 a1 a2 a3 (a4 - 1000) a5 r s1 s2).toArray⟩ := ⟨_, rfl⟩
          rw [← hT] at HT
          have HTE := Lib.hid hT
          have HCB := Lib.hid hcb
          by_cases h6 : a6 = 0 ∨ a6 = 1
          case pos =>
            have HO : Hid (o = some ⟨a0, a1, a2, a3, a4 - 1000, a5, r, s1, s2⟩) := by show _ = _; rw [HRD.out, if_pos ⟨h6, hcb⟩]
            obtain rfl : T = s := HT.out.2 h6
            clear hcb HTX h6 hT HT hr
            go_wp2_with fail
            refine (isCommand_val a0 a1 a2 a3 (a4 - 1000) a5 r s1 s2 true _ (by unfold maxLen; omega) (by unfold maxLen; omega) HCB.out).mono ?_
            rintro e w4 ⟨rfl, hb4'⟩
            have hz4 := hb4'.size
            have B4 : Below w.heap.size w w4 := B3.trans (hb4'.mono (by omega))
            have X4 := Lib.hid (box_below X3.out hb4' (by omega))
            have Y4 := Lib.hid (box_below Y3.out hb4' (by omega))
            have x4 := box_cells X4.out
            have f4 := box_free X4.out
            have y4 := box_cells Y4.out
            unfold CmdD.zero CmdD.arr at x4
            clear y3
            go_wp2_with fail
            refine (commandText_val a0 a1 a2 a3 (a4 - 1000) a5 r s1 s2 T _ HFI.out HTE.out).mono ?_
            rintro e w5 ⟨rfl, hb5'⟩
            clear x4 f4
            have hz5 := hb5'.size
            have B5 : Below w.heap.size w w5 := B4.trans (hb5'.mono (by omega))
            have X5 := Lib.hid (box_below X4.out hb5' (by omega))
            have Y5 := Lib.hid (box_below Y4.out hb5' (by omega))
            have x5 := box_cells X5.out
            have f5 := box_free X5.out
            have y5 := box_cells Y5.out
            unfold CmdD.zero CmdD.arr at x5
            clear y4
            go_wp2
            exact bodyPost_ret (v := .tuple #[.agg (CmdD.mk a0 a1 a2 a3 (a4 - 1000) a5 r s1 s2).arr, .bool true]) (by simp [results, Try.results32, CmdD.arr, x5, go_sem]) rfl (readPost _ true (by rw [HO.out]; rfl) rfl (by rw [HO.out]; exact some_same) (set9 B5 (Nat.le_refl _) _ _ _ _ _ _ _ _ _))
          case neg =>
            have HO : Hid (o = none) := by show _ = _; rw [HRD.out, if_neg (fun h => h6 h.1)]
            have hne : T ≠ s := fun h => h6 (HT.out.1 h)
            have hnl : ¬ T.toList = s.toList := fun h => hne (by
              apply ByteArray.ext
              apply Array.toList_inj.1
              rw [← ByteArray.toList_eq, ← ByteArray.toList_eq, h])
            have q1 : (T.toList == s.toList) = false := by simpa using hnl
            have q2 : (T.toList != s.toList) = true := by simpa using hnl
            clear hcb HTX h6 hT HT hne hnl hr
            go_wp2_with fail
            refine (isCommand_val a0 a1 a2 a3 (a4 - 1000) a5 r s1 s2 true _ (by unfold maxLen; omega) (by unfold maxLen; omega) HCB.out).mono ?_
            rintro e w4 ⟨rfl, hb4'⟩
            have hz4 := hb4'.size
            have B4 : Below w.heap.size w w4 := B3.trans (hb4'.mono (by omega))
            have X4 := Lib.hid (box_below X3.out hb4' (by omega))
            have Y4 := Lib.hid (box_below Y3.out hb4' (by omega))
            have x4 := box_cells X4.out
            have f4 := box_free X4.out
            have y4 := box_cells Y4.out
            unfold CmdD.zero CmdD.arr at x4
            clear y3
            go_wp2_with fail
            refine (commandText_val a0 a1 a2 a3 (a4 - 1000) a5 r s1 s2 T _ HFI.out HTE.out).mono ?_
            rintro e w5 ⟨rfl, hb5'⟩
            clear x4 f4
            have hz5 := hb5'.size
            have B5 : Below w.heap.size w w5 := B4.trans (hb5'.mono (by omega))
            have X5 := Lib.hid (box_below X4.out hb5' (by omega))
            have Y5 := Lib.hid (box_below Y4.out hb5' (by omega))
            have x5 := box_cells X5.out
            have f5 := box_free X5.out
            have y5 := box_cells Y5.out
            unfold CmdD.zero CmdD.arr at x5
            clear y4
            go_wp2
            exact bodyPost_ret (v := .tuple #[.agg CmdD.zero.arr, .bool false]) (by simp [results, Try.results32, CmdD.arr, CmdD.zero, x5, go_sem]) rfl (readPost CmdD.zero false (by rw [HO.out]; rfl) rfl (by rw [HO.out]; exact some_none) (set9 B5 (Nat.le_refl _) _ _ _ _ _ _ _ _ _))
end Go.Proofs.Ytceaanampdcaeaa
