/-
  Contract of the reference's l01Hash: it is SHA-256 of the bytes. Conditions: the bytes lie as the cells say, and are no more than a billion.
-/
import Derived.Test.YtfkpdinfoagfhaaDoorSha4
import Derived.Test.YtfkpdinfoagfhaaDoorSha3
import Derived.Test.YtfkpdinfoagfhaaDoorApp
import Derived.Deep.RegionHeld3
namespace Go.Proofs.YtfkpdinfoagfhaaDoor
open Go.ChangeShapes Go.WideShapes Go.ChangeAt Go.RowKit
set_option linter.unusedVariables false
set_option linter.unusedSimpArgs false
set_option maxRecDepth 100000

theorem Wd.grown {w w' : World} {b : Nat} {l : List Nat} {row : Option Nat} (h : Wd w b 0 l) (hg : w.grownBy w' row) (hb : b < w.heap.size) (hne : ∀ k, row = some k → b + 1 ≤ k) : Wd w' b 0 l :=
  h.congr (hg.block b hb (by intro e; have := hne b e.symm; omega))
theorem At.congr {w w' : World} {b o : Nat} {xs : List Value} (h : At w (some ⟨b, o, none⟩) xs) (hb : w'.heap[b]? = w.heap[b]?) : At w' (some ⟨b, o, none⟩) xs := by
  rcases h with h | ⟨b', o', he, h⟩
  · exact .inl h
  · simp only [Option.some.injEq, Addr.mk.injEq, and_true] at he
    obtain ⟨rfl, rfl⟩ := he
    exact .inr ⟨b, o, rfl, fun i hi => by rw [cell_congr hb]; exact h i hi⟩
theorem kc_of {w : World} {b : Nat} (h : Wd w b 0 ks) : Kc w b := fun i hi => by
  have := (h i hi).1
  rwa [Nat.zero_add] at this
theorem l01Consts_any (w : World) :
    Calls Tryd.prog 35 #[] w fun e w' => e = .returned (.slice (some ⟨w.heap.size, 0, none⟩) 64 64) ∧ Kc w' w.heap.size ∧ Below w.heap.size w w' ∧ w.heap.size < w'.heap.size := by
  go_enter Tryd.func35, Tryd.ntmps35
  go_wp2
  go_ret
  exact ⟨rfl, kc_of (wd_block (heap_alloc_new w _) (by rfl)), (Below.refl _ _).alloc (Nat.le_refl _) _, by simp⟩

def lenOf : Value → Nat
  | .slice _ n _ => n
  | _ => 0
/-- the bytes, the mark and some zeros -/
def zerosL (l : List UInt8) (j : Nat) : List UInt8 := l ++ [128] ++ List.replicate j 0
theorem length_zerosL (l : List UInt8) (j : Nat) : (zerosL l j).length = l.length + 1 + j := by simp [zerosL]; omega
theorem zerosL_succ (l : List UInt8) (j : Nat) : u8s (zerosL l (j + 1)) = u8s (zerosL l j) ++ [.int .u8 0] := by simp [zerosL, u8s, List.replicate_succ', ← List.append_assoc]
theorem padded_eq (l : List UInt8) : padded l = zerosL l (zerosOf l.length) ++ bigL (8 * l.length) 8 := rfl
theorem sub_at {w : World} {g off k n : Nat} {xs : List UInt8} (h : At w (some ⟨g, off, none⟩) (u8s xs)) (hk : k + n ≤ xs.length) (hn : 0 < n) : By w g (off + k) ((xs.drop k).take n) := by
  intro i hi
  rcases h with h | ⟨b, o, he, h⟩
  · have : xs = [] := by simpa [u8s] using h
    subst this; simp at hk; omega
  · simp only [Option.some.injEq, Addr.mk.injEq, and_true] at he
    obtain ⟨rfl, rfl⟩ := he
    rw [List.length_take, List.length_drop] at hi
    have := h (k + i) (by rw [length_u8s]; omega)
    rw [Nat.add_assoc, this]
    simp only [u8s, List.getElem_map, List.getD_eq_getElem?_getD]
    rw [List.getElem?_take_of_lt (by omega), List.getElem?_drop, List.getElem?_eq_getElem (by omega)]
    rfl

theorem four_bytes (y : Nat) : u8s (bigL y 4) = [.int .u8 ((y : Int) / 16777216 % 256), .int .u8 ((y : Int) / 65536 % 256), .int .u8 ((y : Int) / 256 % 256), .int .u8 ((y : Int) % 256)] := by
  rw [bigL_cons, bigL_cons, bigL_cons, bigL_cons, bigL]
  simp only [u8s, List.map_cons, List.map_nil, ofNat_mod]
  simp
set_option maxHeartbeats 4000000 in
theorem l01Hash_any (ao : Option Addr) (n cp : Nat) (l : List UInt8) (w : World) (hl : l.length = n) (ha : At w ao (u8s l)) (hs : n ≤ 1000000000) :
    Calls Tryd.prog 21 #[.slice ao n cp] w fun e w' => e = .returned (.string ⟨(sha l).toArray⟩) ∧ Below w.heap.size w w' := by
  obtain ⟨i0, hi, hz0, hz1, hz2⟩ := info_parts Tryd.info_i8
  have HL := Lib.hid hl
  have HA := Lib.hid ha
  obtain ⟨z, hz⟩ : ∃ z, zerosOf n = z := ⟨_, rfl⟩
  have hz64 : z < 64 := by rw [← hz]; unfold zerosOf; omega
  have HZ := Lib.hid hz
  clear hl ha hz
  have hmade : ((w.alloc (.cells #[Value.int .u32 1779033703, Value.int .u32 3144134277, Value.int .u32 1013904242, Value.int .u32 2773480762, Value.int .u32 1359893119, Value.int .u32 2600822924, Value.int .u32 528734635, Value.int .u32 1541459225] 52)).alloc (.cells #[] 5)).ownsRow (w.heap.size + 1) 5 1 (.slice (some ⟨w.heap.size + 1, 0, none⟩) 0 0) 0 [] := by
    have := World.ownsRow_made (base := w.heap.size + 1) (e := 5) (size := 1) (w.alloc (.cells #[Value.int .u32 1779033703, Value.int .u32 3144134277, Value.int .u32 1013904242, Value.int .u32 2773480762, Value.int .u32 1359893119, Value.int .u32 2600822924, Value.int .u32 528734635, Value.int .u32 1541459225] 52)) #[] 0 (by simp) (Nat.zero_le _) rfl
    simpa using this
  have hstart : Wd ((w.alloc (.cells #[Value.int .u32 1779033703, Value.int .u32 3144134277, Value.int .u32 1013904242, Value.int .u32 2773480762, Value.int .u32 1359893119, Value.int .u32 2600822924, Value.int .u32 528734635, Value.int .u32 1541459225] 52)).alloc (.cells #[] 5)) w.heap.size 0 startW.list :=
    (wd_block (heap_alloc_new w _) (by rfl)).below ((Below.refl _ _).alloc (Nat.le_refl _) _) (by simp)
  have hbel0 : Below w.heap.size w ((w.alloc (.cells #[Value.int .u32 1779033703, Value.int .u32 3144134277, Value.int .u32 1013904242, Value.int .u32 2773480762, Value.int .u32 1359893119, Value.int .u32 2600822924, Value.int .u32 528734635, Value.int .u32 1541459225] 52)).alloc (.cells #[] 5)) := ((Below.refl w.heap.size _).alloc (Nat.le_refl _) _).alloc (by simp) _
  have HST := Lib.hid hstart
  have HB0 := Lib.hid hbel0
  clear hstart hbel0
  go_enter Tryd.func21, Tryd.ntmps21
  go_wp2_with (first
    | (at_builtin; (refine wpList_append_at rfl (.tmp 11) (.tmp 12) 22 rfl (w.heap.size + 1) 5 i0 (.int .u8 0) 1 Tryd.underlying22 hi hz0 hz1 hz2 rfl (.slice (some ⟨w.heap.size + 1, 0, none⟩) 0 0) 0 [] rfl hmade ao n cp (u8s l) rfl (by rw [length_u8s]; exact HL.out) (HA.out.below HB0.out (Nat.le_refl _)) (u8s_one _) (by unfold maxLen; omega) (by omega) (by simp) ?_; intro a1 c1 w1 hown1 hgrow1 hat1; clear hmade; simp only [Nat.zero_add, List.nil_append] at hown1))
    | (at_builtin; (refine wpList_append_lies _ rfl (.tmp 13) (.tmp 14) 22 rfl (w.heap.size + 1) 5 i0 (.int .u8 0) 1 1 Tryd.underlying22 hi hz0 hz1 hz2 rfl (by decide) _ _ _ rfl (hown1.alloc _) ⟨w1.heap.size, 0, none⟩ 1 1 [.int .u8 128] rfl rfl (fun j u hu => World.news_of_block (heap_alloc_new _ _) j u hu) (by intro u hu; simp at hu; subst hu; rfl) (by decide) (by unfold maxLen; omega) (by omega) (by have := hgrow1.size; simp at this ⊢; omega) _ rfl ?_; intro g2 c2 w2 hown2 hgrow2 hlie2 hlt2)))
  have hgr1 := Lib.hid hgrow1
  have HB1 : Below w.heap.size w w1 := HB0.out.grown hgrow1 (by simp; omega) (fun k h => by simp only [Value.ownBlock, Option.map_some, Option.some.injEq] at h; omega)
  have hs1 : w.heap.size + 2 ≤ w1.heap.size := by have := hgrow1.size; simpa using this
  have HW1 : Hid (Wd w1 w.heap.size 0 startW.list) := HST.out.grown hgrow1 (by simp; omega) (fun k h => by simp only [Value.ownBlock, Option.map_some, Option.some.injEq] at h; omega)
  have HB2 : Below w.heap.size w w2 := (HB1.alloc HB1.size _).grown hgrow2 (by simp; omega) (fun k h => by have := (hown1.lt k h).1; omega)
  have HW2 : Hid (Wd w2 w.heap.size 0 startW.list) := (HW1.out.below ((Below.refl w1.heap.size _).alloc (Nat.le_refl _) (.cells #[.int .u8 128] 5)) (by omega)).grown hgrow2 (by simp; omega) (fun k h => (hown1.lt k h).1)
  have hs2 : w.heap.size < w2.heap.size := by have := hgrow2.size; simp at this; omega
  have ho2 : w2.ownsRow (w.heap.size + 1) 5 1 (.slice (some ⟨g2, 0, none⟩) (n + 1) c2) (n + 1) (u8s (zerosL l 0)) := by
    rw [show u8s (zerosL l 0) = u8s l ++ [Value.int .u8 128] from by simp [zerosL, u8s]]; exact hown2
  clear hgr1 hgrow1 hgrow2 hat1 hown1 hown2 hlie2 hlt2 HB1 HW1 hs1 HB0 HST HA
  go_loopw [4] (fun v wr => ∃ j : Nat, j ≤ z ∧ ∃ m g c : Nat, m ≤ n + 1 + z ∧ Hid (m = n + 1 + j) ∧ v = .slice (some ⟨g, 0, none⟩) m c ∧ wr.ownsRow (w.heap.size + 1) 5 1 (.slice (some ⟨g, 0, none⟩) m c) m (u8s (zerosL l j)) ∧ Hid (Wd wr w.heap.size 0 startW.list) ∧ Below w.heap.size w wr ∧ w.heap.size < wr.heap.size) (fun v _ => n + 1 + z - lenOf v)
  case atStart => exact ⟨0, Nat.zero_le _, n + 1, g2, c2, by omega, by show _ = _; omega, rfl, ho2, HW2, HB2, hs2⟩
  case round =>
    clear HW2 HB2 hs2 ho2
    obtain ⟨j, hj, m, g, c, hml, hm, rfl, hown, HW, HB, hsz⟩ := hrel
    by_cases hjz : j = z
    · have ht : ((m : Int) % 64 != 56) = false := by
        have := hm.out; have := HZ.out; unfold zerosOf at this
        rw [bne_eq_false_iff_eq]; omega
      have HM : Hid (m = n + 1 + z) := by show _ = _; rw [hm.out, hjz]
      rw [hjz] at hown
      clear hm hjz hj
      obtain ⟨N, hN⟩ : ∃ N, 8 * n = N := ⟨_, rfl⟩
      have hNw : IntKind.i64.wrap (8 * (n : Int)) = (N : Int) := by rw [IntKind.wrap_i64]; omega
      have hNl : N ≤ 8000000000 := by omega
      have HN := Lib.hid hN
      clear hN
      go_wp2
      clear ht
      go_loopw [4, 5] (fun v i wx => ∃ j : Nat, j ≤ 8 ∧ i = .int .i64 (7 - (j : Int)) ∧ ∃ q g c : Nat, q ≤ m + 8 ∧ Hid (q = m + j) ∧ v = .slice (some ⟨g, 0, none⟩) q c ∧ wx.ownsRow (w.heap.size + 1) 5 1 (.slice (some ⟨g, 0, none⟩) q c) q (u8s (zerosL l z ++ (bigL N 8).take j)) ∧ Hid (Wd wx w.heap.size 0 startW.list) ∧ Below w.heap.size w wx ∧ w.heap.size < wx.heap.size) (fun _ i _ => (intOf i + 1).toNat)
      case atStart => exact ⟨0, Nat.zero_le _, by go_num, m, g, c, by omega, rfl, rfl, by simpa using hown, HW, HB, hsz⟩
      case round =>
        clear HW HB hsz hown
        obtain ⟨j, hj, rfl, q, g, c, hql, hq, rfl, hown, HW, HB, hsz⟩ := hrel
        by_cases hjt : j < 8
        · obtain ⟨k, hk⟩ : ∃ k, 8 = k + 1 + j := ⟨7 - j, by omega⟩
          have e1 : (7 : Int) - (j : Int) = (k : Int) := by omega
          have HTK : Hid ((bigL N 8).take (j + 1) = (bigL N 8).take j ++ [UInt8.ofNat (N / 2 ^ (8 * k) % 256)]) := by
            show _ = _
            rw [bigL_take _ _ _ (by omega), show 8 - 1 - j = k from by omega, pow256]
          have HK := Lib.hid hk
          have hk1 : k < 8 := by omega
          have hq1 : q + 1 ≤ m + 8 := by have := hq.out; omega
          clear hk
          have hdl : N / 2 ^ (8 * k) ≤ N := Nat.div_le_self _ _
          rw [e1]
          clear e1
          go_wp2_with (at_builtin; refine wpList_append_lies _ rfl (.tmp 27) (.tmp 36) 22 rfl (w.heap.size + 1) 5 i0 (.int .u8 0) 1 1 Tryd.underlying22 hi hz0 hz1 hz2 rfl (by decide) _ _ _ rfl (hown.alloc _) ⟨wr.heap.size, 0, none⟩ 1 1 [.int .u8 ((N : Int) / 2 ^ (8 * k) % 256)] rfl rfl (fun j u hu => World.news_of_block (heap_alloc_new _ _) j u hu) (by intro u hu; simp at hu; subst hu; rfl) (by decide) (by unfold maxLen; omega) (by omega) (by simp; omega) _ rfl ?_; intro g3 c3 w3 hown3 hgrow3 hlie3 hlt3)
          have HB3 : Below w.heap.size w w3 := (HB.alloc HB.size _).grown hgrow3 (by simp; omega) (fun k h => by have := (hown.lt k h).1; omega)
          have HW3 : Hid (Wd w3 w.heap.size 0 startW.list) := (HW.out.below ((Below.refl wr.heap.size _).alloc (Nat.le_refl _) (.cells #[.int .u8 ((N : Int) / 2 ^ (8 * k) % 256)] 5)) hsz).grown hgrow3 (by simp; omega) (fun k h => (hown.lt k h).1)
          have hs3 : w.heap.size < w3.heap.size := by have := hgrow3.size; simp at this; omega
          clear hgrow3 hlie3 hlt3 hown HB HW hsz
          go_roundw
          case rel =>
            refine ⟨j + 1, by omega, by have := HK.out; go_num, q + 1, g3, c3, hq1, by show _ = _; rw [hq.out]; omega, rfl, ?_, HW3, HB3, hs3⟩
            rw [HTK.out, ← List.append_assoc, u8s_append, show u8s [UInt8.ofNat (N / 2 ^ (8 * k) % 256)] = [.int .u8 ((N : Int) / 2 ^ (8 * k) % 256)] from by
              simp only [u8s, List.map_cons, List.map_nil]; rw [ofNat_mod]; simp]
            exact hown3
          case measure => simp [intOf] <;> omega
        · have hj8 : j = 8 := by omega
          have HP : Hid (zerosL l z ++ (bigL N 8).take j = padded l) := by
            show _ = _
            rw [hj8, List.take_of_length_le (by rw [length_bigL]; exact Nat.le_refl _), padded_eq, HL.out, HZ.out, HN.out]
          rw [HP.out] at hown
          obtain ⟨T, hT⟩ : ∃ T, (padded l).length / 64 = T := ⟨_, rfl⟩
          have HQ : Hid (q = 64 * T) := by
            show _ = _
            have h1 := padded_length l
            have h2 := hown.1
            rw [length_u8s] at h2
            omega
          have HT := Lib.hid hT
          have HAT : Hid (At wr (some ⟨g, 0, none⟩) (u8s (padded l))) := (own_at hown).at
          have hgl := hown.lt g rfl
          have hgl1 : w.heap.size < g := hgl.1
          have hgl2 : g < wr.heap.size := hgl.2
          have hqc : q ≤ c := by
            rcases hown.2 with ⟨h, _⟩ | ⟨g', c', cur, h, _, _, h3, _⟩
            · cases h
            · simp only [Value.slice.injEq] at h; omega
          have HPL : Hid ((padded l).length = q) := by
            have h2 := hown.1; rw [length_u8s] at h2; show _ = _; omega
          have hml3 : q ≤ 2000000000 := by omega
          have hjn : (7 : Int) - (j : Int) < 0 := by omega
          clear hT hown hj8 hjt hj hq hgl
          have HBH := Lib.hid HB
          clear HB
          go_wp2_with fail
          refine (l01Consts_any _).mono ?_
          rintro e w4 ⟨rfl, hk4, hb4, hs4⟩
          obtain ⟨kb, hkb⟩ : ∃ kb, wr.heap.size = kb := ⟨_, rfl⟩
          have HW4 : Hid (Wd w4 w.heap.size 0 (blocksW (padded l) 0).list) := HW.out.below hb4 (by omega)
          have HA4 : Hid (At w4 (some ⟨g, 0, none⟩) (u8s (padded l))) := HAT.out.congr (hb4.block g hgl2)
          have HB4 : Hid (Below w.heap.size w w4) := HBH.out.trans (hb4.mono (by omega))
          have HK4 := Lib.hid hk4
          rw [hkb] at hs4 HK4 hgl2 hsz ⊢
          clear hkb HW HAT HBH hb4 hk4
          go_wp2
          go_loopw [7] (fun i wx => ∃ k : Nat, k ≤ T ∧ ∃ p : Nat, p ≤ q ∧ Hid (p = 64 * k) ∧ i = .int .i64 p ∧ Hid (Wd wx w.heap.size 0 (blocksW (padded l) k).list) ∧ Hid (At wx (some ⟨g, 0, none⟩) (u8s (padded l))) ∧ Hid (Kc wx kb) ∧ Hid (Below w.heap.size w wx) ∧ w.heap.size < wx.heap.size ∧ g < wx.heap.size ∧ kb < wx.heap.size) (fun i _ => q - (intOf i).toNat)
          case atStart => exact ⟨0, Nat.zero_le _, 0, Nat.zero_le _, rfl, rfl, HW4, HA4, HK4, HB4, by omega, by omega, hs4⟩
          case round =>
            clear HW4 HA4 HK4 HB4 hs4
            obtain ⟨k, hk, p, hpq, hp, rfl, HW, HAT, HKC, HB, hx1, hx2, hx3⟩ := hrel
            by_cases hkt : k < T
            · have hp64 : p + 64 ≤ q := by have := hp.out; have := HQ.out; omega
              have hpc : p + 64 ≤ c := by omega
              have hk1 : k + 1 ≤ T := hkt
              clear hkt
              go_wp2_with fail
              refine (l01Block_any w.heap.size w.heap.size 8 g p (c - p) kb 64 (blocksW (padded l) k) (((padded l).drop (64 * k)).take 64) wr (blocksW_ok _ _) ?bl HW.out ?bc HKC.out (Nat.le_refl _) (Nat.le_of_lt hx1) hx1 hx2 hx3).mono ?_
              case bl => rw [List.length_take, List.length_drop, HPL.out, ← hp.out]; omega
              case bc =>
                have := sub_at (k := 64 * k) (n := 64) HAT.out (by rw [HPL.out, ← hp.out]; exact hp64) (by decide)
                rw [Nat.zero_add] at this
                rw [hp.out]; exact this
              rintro e w5 ⟨rfl, hw5, hb5, hk5⟩
              have HW5 : Hid (Wd w5 w.heap.size 0 (blocksW (padded l) (k + 1)).list) := hw5
              have HA5 : Hid (At w5 (some ⟨g, 0, none⟩) (u8s (padded l))) := HAT.out.congr (hk5 g hx2 (by omega))
              have HK5 : Hid (Kc w5 kb) := fun i hi => by rw [cell_congr (hk5 kb hx3 (by omega))]; exact HKC.out i hi
              have HB5 : Hid (Below w.heap.size w w5) := HB.out.trans hb5
              have hy1 : wr.heap.size ≤ w5.heap.size := hb5.size
              clear hw5 hb5 hk5 HW HAT HKC HB
              go_wp2
              go_roundw
              case rel => exact ⟨k + 1, by omega, p + 64, hp64, by show _ = _; rw [hp.out]; omega, by go_num, HW5, HA5, HK5, HB5, by omega, by omega, by omega⟩
              case measure => simp [intOf]; omega
            · have hkT : k = T := by omega
              have hpe : q ≤ p := by have := hp.out; have := HQ.out; rw [hkT] at *; omega
              obtain ⟨S, hS⟩ : ∃ S, blocksW (padded l) T = S := ⟨_, rfl⟩
              have HSH : Hid (outW S 8 = sha l) := by
                show _ = _
                rw [← hS, ← HT.out]; exact outW_all l
              have HOK : Hid S.ok := by show S.ok; rw [← hS]; exact blocksW_ok _ _
              have HW6 : Hid (Wd wr w.heap.size 0 S.list) := by show Wd _ _ _ _; rw [← hS, ← hkT]; exact HW.out
              have HBo := HB.out
              clear hS hkT hkt hp hk HW HAT HKC HB hx2 hx3
              have hpb : decide (p < q) = false := by simp; omega
              go_wp2
              go_loopw [8, 9] (fun v i wx => ∃ k : Nat, k ≤ 8 ∧ i = .int .i64 k ∧ ∃ m g c : Nat, m ≤ 32 ∧ Hid (m = 4 * k) ∧ v = .slice (some ⟨g, 0, none⟩) m c ∧ wx.ownsRow (w.heap.size + 1) 5 1 (.slice (some ⟨g, 0, none⟩) m c) m (u8s (outW S k)) ∧ Hid (Wd wx w.heap.size 0 S.list) ∧ Below w.heap.size w wx ∧ w.heap.size < wx.heap.size) (fun _ i _ => 8 - (intOf i).toNat)
              case atStart => exact ⟨0, Nat.zero_le _, rfl, 0, _, _, Nat.zero_le _, rfl, rfl, World.ownsRow_made _ _ 0 hx1 (Nat.zero_le _) rfl, HW6.out.below ((Below.refl wr.heap.size _).alloc (Nat.le_refl _) _) hx1, HBo.alloc HBo.size _, by simp; omega⟩
              case round =>
                clear HW6 HBo hx1
                obtain ⟨k, hk, rfl, m, g, c, hm32, hm, rfl, hown, HW, HB, hsz⟩ := hrel
                by_cases hkt : k < 8
                · have hcell := (HW.out k hkt).1
                  rw [Nat.zero_add] at hcell
                  have hlt := list_lt HOK.out k
                  have HSU : Hid (outW S (k + 1) = outW S k ++ bigL (S.list.getD k 0) 4) := outW_succ S k hkt
                  have hm1 : m + 4 ≤ 32 := by have := hm.out; omega
                  obtain ⟨y, hy⟩ : ∃ y, S.list.getD k 0 = y := ⟨_, rfl⟩
                  rw [hy] at hcell hlt HSU
                  have HY := Lib.hid hy
                  clear hy
                  have LK : (k : Int) < 8 := by omega
                  have LK0 : (0 : Int) ≤ (k : Int) := by omega
                  have HM := Lib.hid hm.out
                  clear hm
                  go_wp2_with fail
                  go_region_held3 (fun w' => w'.cell? ⟨w.heap.size, k, none⟩ = some (.int .u32 (y : Int))) (first | exact hcell | exact hc1 | go_keep)
                    (first
                    | (refine step_append_lies _ (by rfl) (.tmp 58) (.tmp 82) 22 (by rfl) (w.heap.size + 1) 5 i0 (.int .u8 0) 1 1 Tryd.underlying22 hi hz0 hz1 hz2 rfl (by decide) _ _ _ (by rfl) (hown.drew.alloc _) ⟨wr.heap.size, 0, none⟩ 4 4 [.int .u8 ((y : Int) / 16777216 % 256), .int .u8 ((y : Int) / 65536 % 256), .int .u8 ((y : Int) / 256 % 256), .int .u8 ((y : Int) % 256)] (by rfl) rfl (fun j u hu => World.news_of_block (heap_alloc_new _ _) j u hu) (by intro u hu; simp at hu; rcases hu with rfl | rfl | rfl | rfl <;> rfl) (by decide) (by unfold maxLen; omega) (by omega) (by simp; omega) _ rfl ?_; intro g3 c3 w3 hown3 hgrow3 hlie3 hlt3; have HW3 : Hid (Wd w3 w.heap.size 0 S.list) := (HW.out.below ((Below.refl wr.heap.size _).drew.alloc (Nat.le_refl _) (.cells #[.int .u8 ((y : Int) / 16777216 % 256), .int .u8 ((y : Int) / 65536 % 256), .int .u8 ((y : Int) / 256 % 256), .int .u8 ((y : Int) % 256)] 5)) hsz).grown hgrow3 (by simp; omega) (fun k h => (hown.lt k h).1); have hc1 : w3.cell? ⟨w.heap.size, k, none⟩ = some (.int .u32 (y : Int)) := by have h := (HW3.out k hkt).1; rw [Nat.zero_add, HY.out] at h; exact h)
                    | fail)
                  have HB3 : Below w.heap.size w w3 := (HB.drew.alloc HB.size _).grown hgrow3 (by simp; omega) (fun k h => by have := (hown.lt k h).1; omega)
                  have hs3 : w.heap.size < w3.heap.size := by have := hgrow3.size; simp at this; omega
                  have ho3 : w3.ownsRow (w.heap.size + 1) 5 1 (.slice (some ⟨g3, 0, none⟩) (m + 4) c3) (m + 4) (u8s (outW S (k + 1))) := by
                    rw [HSU.out, u8s_append, four_bytes]; exact hown3
                  clear hgrow3 hlie3 hlt3 hown hown3 HB HW hsz hcell hc1
                  go_wp2
                  go_roundw
                  case rel => exact ⟨k + 1, by omega, by go_num, m + 4, g3, c3, hm1, by show _ = _; rw [HM.out]; omega, rfl, ho3, HW3, HB3, hs3⟩
                  case measure => simp [intOf]; omega
                · have hk8 : k = 8 := by omega
                  rw [hk8] at hown
                  have hm32 : m = 32 := by have := hm.out; omega
                  have hcv := conv_at (P := Tryd.prog) 22 9 5 m c Tryd.underlying22 Tryd.underlying5 Tryd.underlying9 (show At wr (some ⟨g, 0, none⟩) (u8s (outW S 8)) from (own_at hown).at) (by have := hown.1; rw [length_u8s] at this; omega)
                  rw [HSH.out] at hcv
                  clear hm32 hk8 hm hown
                  go_wp2
                  go_ret
                  exact ⟨rfl, HB⟩
    · have ht : ((m : Int) % 64 != 56) = true := by
        have := hm.out; have := HZ.out; unfold zerosOf at this
        rw [bne_iff_ne]; omega
      have hjl : j < z := by omega
      have hml2 : m + 1 ≤ n + 1 + z := by have := hm.out; omega
      have HM := Lib.hid hm.out
      clear hm hjz hj
      go_wp2_with (at_builtin; refine wpList_append_lies _ rfl (.tmp 20) (.tmp 21) 22 rfl (w.heap.size + 1) 5 i0 (.int .u8 0) 1 1 Tryd.underlying22 hi hz0 hz1 hz2 rfl (by decide) _ _ _ rfl (hown.alloc _) ⟨wr.heap.size, 0, none⟩ 1 1 [.int .u8 0] rfl rfl (fun j u hu => World.news_of_block (heap_alloc_new _ _) j u hu) (by intro u hu; simp at hu; subst hu; rfl) (by decide) (by unfold maxLen; omega) (by omega) (by simp; omega) _ rfl ?_; intro g3 c3 w3 hown3 hgrow3 hlie3 hlt3)
      have HB3 : Below w.heap.size w w3 := (HB.alloc HB.size _).grown hgrow3 (by simp; omega) (fun k h => by have := (hown.lt k h).1; omega)
      have HW3 : Hid (Wd w3 w.heap.size 0 startW.list) := (HW.out.below ((Below.refl wr.heap.size _).alloc (Nat.le_refl _) (.cells #[.int .u8 0] 5)) hsz).grown hgrow3 (by simp; omega) (fun k h => (hown.lt k h).1)
      have hs3 : w.heap.size < w3.heap.size := by have := hgrow3.size; simp at this; omega
      have ho3 : w3.ownsRow (w.heap.size + 1) 5 1 (.slice (some ⟨g3, 0, none⟩) (m + 1) c3) (m + 1) (u8s (zerosL l (j + 1))) := by rw [zerosL_succ]; exact hown3
      clear hgrow3 hlie3 hlt3 hown hown3 HB HW hsz
      go_roundw
      case rel => exact ⟨j + 1, hjl, m + 1, g3, c3, hml2, by show _ = _; rw [HM.out]; omega, rfl, ho3, HW3, HB3, hs3⟩
      case measure => simp [lenOf]; omega
end Go.Proofs.YtfkpdinfoagfhaaDoor
