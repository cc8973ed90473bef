/-
  Contract of ScreenOK of the reference, and of ScreenOK of the given program. Conditions: bounds on lengths.
-/
import Derived.Test.YtfflmmkkgcijgaaDoorScrPlain
namespace Go.Proofs.YtfflmmkkgcijgaaDoor
open Go.ChangeShapes Go.WideShapes Go.ChangeAt Go.RowKit
set_option linter.unusedVariables false
set_option linter.unusedSimpArgs false
set_option maxRecDepth 100000

def tiAll (ti : ByteArray) : Bool := ti.data.toList.all chrOk
theorem scr_ac (a0 a1 a2 a3 a4 a5 a6 a7 a8 ta a9 a10 h c : Bool) : (a0 && a1 && a2 && a3 && a4 && a5 && a6 && a7 && (a8 && ta) && a9 && a10 && h && c) = (a0 && a1 && a2 && a3 && a4 && a5 && a6 && a7 && a8 && a10 && a9 && ta && c && h) := by
  ac_rfl
theorem all_no {α : Type} {p : α → Bool} {zs : List α} {k : Nat} (h : k < zs.length) (hc : p zs[k] = false) : zs.all p = false := by
  rw [Bool.eq_false_iff]
  intro ha
  have := List.all_eq_true.1 ha zs[k] (List.getElem_mem h)
  rw [hc] at this; cases this
theorem all_yes {α : Type} {p : α → Bool} {zs : List α} (h : ∀ j (hj : j < zs.length), p zs[j] = true) : zs.all p = true := by
  rw [List.all_eq_true]
  intro x hx
  obtain ⟨j, hj, rfl⟩ := List.getElem_of_mem hx
  exact h j hj
theorem chr_in (b : UInt8) : inR (b.toNat : Int) 32 126 = chrOk b := by
  rw [inR, chrOk, Bool.eq_iff_iff]; simp; omega
theorem ti_no {ti : ByteArray} {k : Nat} (h : k < ti.size) (hc : chrOk ti[k] = false) : tiAll ti = false :=
  all_no (zs := ti.data.toList) (k := k) (by rw [size_list]; exact h) (by rw [Array.getElem_toList]; exact hc)
theorem ti_yes {ti : ByteArray} (h : ∀ j (hj : j < ti.size), chrOk ti[j] = true) : tiAll ti = true :=
  all_yes fun j hj => by have := h j (by rw [size_list] at hj; exact hj); rw [Array.getElem_toList]; exact this

attribute [local irreducible] wpList
set_option maxHeartbeats 40000000 in
theorem specScreenOK_any (wd ht x y lk tp bt sx sy : Int) (ti : ByteArray) (aC : Option Addr) (lenC capC : Nat) (cs : List (Int × Int)) (aH : Option Addr) (lenH capH : Nat) (hs : List ByteArray) (w : World) (hti : ti.size ≤ maxLen) (hc : At w aC (cellsV cs)) (hlc : cs.length = lenC) (hnc : lenC ≤ maxLen) (hh : At w aH (strs hs)) (hlh : hs.length = lenH) (hnh : lenH ≤ maxLen) (hz : ∀ s ∈ hs, s.size ≤ maxLen) :
    Calls Tryd.prog 17 #[.agg #[.int .i64 wd, .int .i64 ht, .int .i64 x, .int .i64 y, .int .i64 lk, .int .i64 tp, .int .i64 bt, .int .i64 sx, .int .i64 sy, .string ti, .slice aC lenC capC, .slice aH lenH capH]] w fun e w' => e = .returned (.bool (scrB wd ht x y lk tp bt sx sy ti cs hs)) ∧ Below w.heap.size w w' := by
  have H0 := Lib.hid ((Below.refl w.heap.size w).alloc (Nat.le_refl _) (.cells #[.int .i64 wd, .int .i64 ht, .int .i64 x, .int .i64 y, .int .i64 lk, .int .i64 tp, .int .i64 bt, .int .i64 sx, .int .i64 sy, .string ti, .slice aC lenC capC, .slice aH lenH capH] 31))
  have HB : Hid (scrB wd ht x y lk tp bt sx sy ti cs hs = (sizeB wd ht && inR x 0 wd && inR y 0 (ht - 1) && inR lk 0 127 && inR tp 0 (ht - 2) && inR bt (tp + 1) (ht - 1) && inR sx 0 wd && inR sy 0 (ht - 1) && decide (ti.size ≤ 40) && ((lenC : Int) == wd * ht) && decide ((lenH : Int) ≤ 6) && tiAll ti && cs.all cellB && hs.all histB)) := by show _ = _; rw [scrB, hlc, hlh, titleB, scr_ac]; rfl
  have HHC := Lib.hid hc
  have HHH := Lib.hid hh
  have HLC := Lib.hid hlc
  have HLH := Lib.hid hlh
  have HZ := Lib.hid hz
  obtain ⟨r0, h0⟩ : ∃ r, sizeB wd ht = r := ⟨_, rfl⟩
  obtain ⟨r1, h1⟩ : ∃ r, inR x 0 wd = r := ⟨_, rfl⟩
  obtain ⟨r2, h2⟩ : ∃ r, inR y 0 (ht - 1) = r := ⟨_, rfl⟩
  obtain ⟨r3, h3⟩ : ∃ r, inR lk 0 127 = r := ⟨_, rfl⟩
  obtain ⟨r4, h4⟩ : ∃ r, inR tp 0 (ht - 2) = r := ⟨_, rfl⟩
  obtain ⟨r5, h5⟩ : ∃ r, inR bt (tp + 1) (ht - 1) = r := ⟨_, rfl⟩
  obtain ⟨r6, h6⟩ : ∃ r, inR sx 0 wd = r := ⟨_, rfl⟩
  obtain ⟨r7, h7⟩ : ∃ r, inR sy 0 (ht - 1) = r := ⟨_, rfl⟩
  obtain ⟨r10, h10⟩ : ∃ r, ((lenC : Int) == wd * ht) = r := ⟨_, rfl⟩
  rw [h0, h1, h2, h3, h4, h5, h6, h7, h10] at HB
  have h10' : ((lenC : Int) != wd * ht) = !r10 := by rw [bne, h10]
  generalize scrB wd ht x y lk tp bt sx sy ti cs hs = R at *
  have H0' := Lib.hid h0
  have H1 := Lib.hid h1
  have H2 := Lib.hid h2
  have H3 := Lib.hid h3
  have H4 := Lib.hid h4
  have H5 := Lib.hid h5
  have H6 := Lib.hid h6
  have H7 := Lib.hid h7
  clear hlc hlh hc hh hz h0 h1 h2 h3 h4 h5 h6 h7 h10
  unfold maxLen at hnc hnh hti
  go_enter Tryd.func17, Tryd.ntmps17
  go_wp2_with fail
  refine (l04Size_blw wd ht r0 _ H0'.out).mono ?_
  rintro e w1 ⟨rfl, hb1⟩
  have hz1 : w.heap.size + 1 ≤ w1.heap.size := by have := hb1.size; simpa using this
  have B1 : Below w.heap.size w w1 := H0.out.trans (hb1.mono (by simp))
  have x1 := box_cells (box_below (box_new w (.cells #[.int .i64 wd, .int .i64 ht, .int .i64 x, .int .i64 y, .int .i64 lk, .int .i64 tp, .int .i64 bt, .int .i64 sx, .int .i64 sy, .string ti, .slice aC lenC capC, .slice aH lenH capH] 31)) hb1 (by simp))
  have HC1 := Lib.hid (HHC.out.below B1 (Nat.le_refl _))
  clear hb1 H0
  cases r0
  · go_wp2
    go_ret
    exact ⟨ret_bool (by rw [HB.out]; rfl), B1⟩
  obtain ⟨b1, b2, b3, b4, b5, b6⟩ := size_facts H0'.out
  go_wp2_with fail
  refine (in_val x 0 wd r1 _ H1.out).mono ?_
  rintro e w' ⟨rfl, rfl⟩
  cases r1
  · go_wp2
    go_ret
    exact ⟨ret_bool (by rw [HB.out]; rfl), B1⟩
  go_wp2_with fail
  refine (in_val y 0 (ht - 1) r2 _ H2.out).mono ?_
  rintro e w' ⟨rfl, rfl⟩
  cases r2
  · go_wp2
    go_ret
    exact ⟨ret_bool (by rw [HB.out]; rfl), B1⟩
  go_wp2_with fail
  refine (in_val lk 0 127 r3 _ H3.out).mono ?_
  rintro e w' ⟨rfl, rfl⟩
  cases r3
  · go_wp2
    go_ret
    exact ⟨ret_bool (by rw [HB.out]; rfl), B1⟩
  go_wp2_with fail
  refine (in_val tp 0 (ht - 2) r4 _ H4.out).mono ?_
  rintro e w' ⟨rfl, rfl⟩
  cases r4
  · go_wp2
    go_ret
    exact ⟨ret_bool (by rw [HB.out]; rfl), B1⟩
  obtain ⟨t1, t2⟩ := in_facts H4.out
  go_wp2_with fail
  refine (in_val bt (tp + 1) (ht - 1) r5 _ H5.out).mono ?_
  rintro e w' ⟨rfl, rfl⟩
  cases r5
  · go_wp2
    go_ret
    exact ⟨ret_bool (by rw [HB.out]; rfl), B1⟩
  go_wp2_with fail
  refine (in_val sx 0 wd r6 _ H6.out).mono ?_
  rintro e w' ⟨rfl, rfl⟩
  cases r6
  · go_wp2
    go_ret
    exact ⟨ret_bool (by rw [HB.out]; rfl), B1⟩
  go_wp2_with fail
  refine (in_val sy 0 (ht - 1) r7 _ H7.out).mono ?_
  rintro e w' ⟨rfl, rfl⟩
  cases r7
  · go_wp2
    go_ret
    exact ⟨ret_bool (by rw [HB.out]; rfl), B1⟩
  by_cases h8 : ti.size ≤ 40
  case neg =>
    have h8' : (40 : Int) < (ti.size : Int) := by omega
    have HB9 : Hid (R = false) := by show _ = _; rw [HB.out, decide_eq_false h8]; rfl
    go_wp2
    go_ret
    exact ⟨ret_bool (by rw [HB9.out]), B1⟩
  have h8' : (ti.size : Int) ≤ 40 := by omega
  have HB8 : Hid (R = (r10 && decide ((lenH : Int) ≤ 6) && tiAll ti && cs.all cellB && hs.all histB)) := by show _ = _; rw [HB.out, decide_eq_true h8]; rfl
  clear HB
  cases r10
  · simp only [Bool.not_false] at h10'
    go_wp2
    go_ret
    exact ⟨ret_bool (by rw [HB8.out]; rfl), B1⟩
  simp only [Bool.not_true] at h10'
  by_cases h9 : (lenH : Int) ≤ 6
  case neg =>
    have h9' : (6 : Int) < (lenH : Int) := by omega
    have HB9 : Hid (R = false) := by show _ = _; rw [HB8.out, decide_eq_false h9]; rfl
    go_wp2
    go_ret
    exact ⟨ret_bool (by rw [HB9.out]), B1⟩
  have HB9 : Hid (R = (tiAll ti && cs.all cellB && hs.all histB)) := by show _ = _; rw [HB8.out, decide_eq_true h9]; rfl
  clear HB8 H1 H2 H3 H4 H5 H6 H7 H0'
  go_wp2
  go_loop [3] (fun i => ∃ k : Nat, k ≤ ti.size ∧ i = .int .i64 k ∧ Hid (∀ j (hj : j < ti.size), j < k → chrOk ti[j] = true)) (fun i => ti.size - (intOf i).toNat)
  case atStart => exact ⟨0, Nat.zero_le _, rfl, fun j hj h => absurd h (by omega)⟩
  case round =>
    obtain ⟨k, hk, rfl, hall⟩ := hrel
    by_cases hkt : k < ti.size
    · have i1 : (k : Int) < (ti.size : Int) := by omega
      have q1 : (ti[k].toNat : Int) ≤ 255 := by have := ti[k].toNat_lt; omega
      cases hc : chrOk ti[k]
      · have H : Hid (R = false) := by show _ = _; rw [HB9.out, ti_no hkt hc]; rfl
        have HC : Hid (inR (ti[k].toNat : Int) 32 126 = false) := by show _ = _; rw [chr_in]; exact hc
        clear hc
        go_wp2_with fail
        refine (in_val _ 32 126 _ _ HC.out).mono ?_
        rintro e w' ⟨rfl, rfl⟩
        go_wp2
        go_ret
        exact ⟨ret_bool H.out.symm, B1⟩
      · have HA : Hid (∀ j (hj : j < ti.size), j < k + 1 → chrOk ti[j] = true) := fun j hj h => if e : j = k then (by subst e; exact hc) else hall.out j hj (by omega)
        have HC : Hid (inR (ti[k].toNat : Int) 32 126 = true) := by show _ = _; rw [chr_in]; exact hc
        clear hc hall
        go_wp2_with fail
        refine (in_val _ 32 126 _ _ HC.out).mono ?_
        rintro e w' ⟨rfl, rfl⟩
        go_wp2
        go_round
        case rel => exact ⟨k + 1, by omega, by go_num, HA⟩
        case measure => simp [intOf]; omega
    · have i1 : (ti.size : Int) ≤ (k : Int) := by omega
      have HB10 : Hid (R = (cs.all cellB && hs.all histB)) := by show _ = _; rw [HB9.out, ti_yes (fun j hj => hall.out j hj (by omega))]; rfl
      clear HB9 hall
      go_wp2
      go_loopw [4] (fun i wr => ∃ m : Nat, m ≤ lenC ∧ i = .int .i64 m ∧ Hid (∀ j (hj : j < cs.length), j < m → cellB cs[j] = true) ∧ Below w1.heap.size w1 wr) (fun i _ => lenC - (intOf i).toNat)
      case atStart => exact ⟨0, Nat.zero_le _, rfl, fun j hj h => absurd h (by omega), Below.refl _ _⟩
      case round =>
        obtain ⟨m, hm, rfl, hall, hbel⟩ := hrel
        have x2 := cells_below x1 hbel (by omega)
        have B2 : Below w.heap.size w wr := B1.trans (hbel.mono (by omega))
        clear x1
        by_cases hmt : m < lenC
        · have hmz : m < cs.length := by have := HLC.out; omega
          obtain ⟨q1, o1, rfl, c1, c2⟩ := (HC1.out.below hbel (Nat.le_refl _)).cell2 hmz
          have i1 : (0 : Int) ≤ (m : Int) := by omega
          have i2 : (m : Int) < (lenC : Int) := by omega
          clear HC1 HHC HHH
          obtain ⟨rr, hr⟩ : ∃ r, cs[m].1 = r := ⟨_, rfl⟩
          obtain ⟨ss, hss⟩ : ∃ s, cs[m].2 = s := ⟨_, rfl⟩
          rw [hr] at c1
          rw [hss] at c2
          have HRS : Hid (cs[m] = (rr, ss)) := by show cs[m] = (rr, ss); rw [← hr, ← hss]
          clear hr hss
          cases hp : cellB (rr, ss)
          · have H : Hid (R = false) := by show _ = _; rw [HB10.out, all_no hmz (by rw [HRS.out]; exact hp)]; rfl
            have HP := Lib.hid hp
            clear hp
            go_wp2_with fail
            refine (l04Cell_any rr ss _).mono ?_
            rw [HP.out]
            rintro e w' ⟨rfl, hb3⟩
            have B3 : Below w.heap.size w w' := B2.trans (hb3.mono B2.size)
            go_wp2
            go_ret
            exact ⟨ret_bool H.out.symm, B3⟩
          · have HA : Hid (∀ j (hj : j < cs.length), j < m + 1 → cellB cs[j] = true) := fun j hj h => if e : j = m then (by subst e; rw [HRS.out]; exact hp) else hall.out j hj (by omega)
            have HP := Lib.hid hp
            clear hp hall
            go_wp2_with fail
            refine (l04Cell_any rr ss _).mono ?_
            rw [HP.out]
            rintro e w' ⟨rfl, hb3⟩
            have B3 : Below w1.heap.size w1 w' := hbel.trans (hb3.mono hbel.size)
            clear x2
            go_wp2
            go_roundw
            case rel => exact ⟨m + 1, by omega, by go_num, HA, B3⟩
            case measure => simp [intOf]; omega
        · have i2 : (lenC : Int) ≤ (m : Int) := by omega
          have HB11 : Hid (R = hs.all histB) := by show _ = _; rw [HB10.out, all_yes (fun j hj => hall.out j hj (by have := HLC.out; omega))]; rfl
          have HH2 := Lib.hid (HHH.out.below B2 (Nat.le_refl _))
          clear HB10 hall HC1 HHC HHH
          go_wp2
          go_loop [5] (fun i => ∃ n : Nat, n ≤ lenH ∧ i = .int .i64 n ∧ Hid (∀ j (hj : j < hs.length), j < n → histB hs[j] = true)) (fun i => lenH - (intOf i).toNat)
          case atStart => exact ⟨0, Nat.zero_le _, rfl, fun j hj h => absurd h (by omega)⟩
          case round =>
            obtain ⟨n, hn, rfl, hall⟩ := hrel
            by_cases hnt : n < lenH
            · have hnz : n < hs.length := by have := HLH.out; omega
              obtain ⟨q1, o1, rfl, hcc⟩ := HH2.out.get (strs_ne hnz)
              have hcell : wr.cell? ⟨q1, o1 + n, none⟩ = some (.string hs[n]) := by rw [hcc n (by simpa [strs] using hnz), strs_get _ _ _ hnz]
              have i1 : (0 : Int) ≤ (n : Int) := by omega
              have i3 : (n : Int) < (lenH : Int) := by omega
              have hsz : hs[n].size ≤ 9223372036854775807 := HZ.out _ (List.getElem_mem hnz)
              clear hcc HH2
              cases hp : histB hs[n]
              · have H : Hid (R = false) := by show _ = _; rw [HB11.out, all_no hnz hp]
                have hp' : (96 : Int) < (hs[n].size : Int) := by simp [histB] at hp; omega
                clear hp
                go_wp2
                go_ret
                exact ⟨ret_bool H.out.symm, B2⟩
              · have HA : Hid (∀ j (hj : j < hs.length), j < n + 1 → histB hs[j] = true) := fun j hj h => if e : j = n then (by subst e; exact hp) else hall.out j hj (by omega)
                have hp' : (hs[n].size : Int) ≤ 96 := by simp [histB] at hp; omega
                clear hp hall
                go_wp2
                go_round
                case rel => exact ⟨n + 1, by omega, by go_num, HA⟩
                case measure => simp [intOf]; omega
            · have i3 : (lenH : Int) ≤ (n : Int) := by omega
              have H : Hid (R = true) := by show _ = _; rw [HB11.out, all_yes (fun j hj => hall.out j hj (by have := HLH.out; omega))]
              go_wp2
              go_ret
              exact ⟨ret_bool H.out.symm, B2⟩
end Go.Proofs.YtfflmmkkgcijgaaDoor
