/-
  Contracts of an action's text: l03Text of the reference, actionText of the given program. Conditions: the action is valid; the library's table of powers stands in its variable.
-/
import Derived.Test.YtfflmmkkgcijgaaDoorRune
import Derived.Test.YtfflmmkkgcijgaaDoorItoa
import Derived.Test.YtfflmmkkgcijgaaDoorActOK2
import Derived.Test.YtfflmmkkgcijgaaDoorSlices
namespace Go.Proofs.YtfflmmkkgcijgaaDoor
open Go.ChangeShapes Go.WideShapes Go.ChangeAt Go.RowKit
set_option linter.unusedVariables false
set_option linter.unusedSimpArgs false
set_option maxRecDepth 100000
def encB (r : Int) : ByteArray := ⟨(Lib.encodeRune r).toArray⟩
theorem encB_size (r : Int) : (encB r).size ≤ 4 := by
  show (Lib.encodeRune r).toArray.size ≤ 4
  have := (Lib.encodeRuneZ_length r).2
  simpa [Lib.encodeRune] using this
theorem ofNat_toUInt8 (k : Nat) : UInt8.ofNat k = k.toUInt8 := rfl
/-- the model's own word for a rune's bytes -/
theorem encode_is {r : Int} (h0 : 0 ≤ r) (h1 : r ≤ 1114111) (h2 : ¬ (55296 ≤ r ∧ r ≤ 57343)) : Utf8.encode r = encB r := by
  have hv : Utf8.valid r = true := by simp [Utf8.valid]; omega
  unfold Utf8.encode encB
  simp only [hv, if_true]
  by_cases a : r ≤ 127
  · rw [if_pos (by omega)]
    simp [Lib.encodeRune, Lib.encodeRuneZ_one h0 a]
  · rw [if_neg (by omega)]
    by_cases b : r ≤ 2047
    · rw [if_pos (by omega)]
      simp only [Lib.encodeRune, Lib.encodeRuneZ_two (show 128 ≤ r by omega) b, List.map_cons, List.map_nil]
      rw [show (192 + r / 64).toNat = 192 + r.toNat / 64 from by omega, show (128 + r % 64).toNat = 128 + r.toNat % 64 from by omega]
    · rw [if_neg (by omega)]
      by_cases c : r ≤ 65535
      · rw [if_pos (by omega)]
        simp only [Lib.encodeRune, Lib.encodeRuneZ_three (r := r) (by omega), List.map_cons, List.map_nil]
        rw [show (224 + r / 4096).toNat = 224 + r.toNat / 4096 from by omega, show (128 + r / 64 % 64).toNat = 128 + r.toNat / 64 % 64 from by omega, show (128 + r % 64).toNat = 128 + r.toNat % 64 from by omega]
      · rw [if_neg (by omega)]
        simp only [Lib.encodeRune, Lib.encodeRuneZ_four (r := r) (by omega) h1, List.map_cons, List.map_nil]
        rw [show (240 + r / 262144).toNat = 240 + r.toNat / 262144 from by omega, show (128 + r / 4096 % 64).toNat = 128 + r.toNat / 4096 % 64 from by omega, show (128 + r / 64 % 64).toNat = 128 + r.toNat / 64 % 64 from by omega, show (128 + r % 64).toNat = 128 + r.toNat % 64 from by omega]
def argsT (base : ByteArray) (zs : List Int) : Nat → ByteArray
  | 0 => base
  | k + 1 => if 0 ≤ zs.getD k 0 then (if 0 < k then argsT base zs k ++ ⟨#[59]⟩ else argsT base zs k) ++ numB (zs.getD k 0).toNat else (if 0 < k then argsT base zs k ++ ⟨#[59]⟩ else argsT base zs k)
def csiB (pv : Bool) : ByteArray := if pv then ⟨#[27, 91]⟩ ++ ⟨#[63]⟩ else ⟨#[27, 91]⟩
theorem csiB_size (pv : Bool) : (csiB pv).size ≤ 3 := by cases pv <;> decide
def actTx (kd n : Int) (pv : Bool) (zs : List Int) (tx : ByteArray) : ByteArray :=
  if kd = 1 then encB n else if kd = 2 then encB n else if kd = 3 then ⟨#[27]⟩ ++ encB n else if kd = 5 then ⟨#[27, 93]⟩ ++ tx ++ ⟨#[7]⟩ else argsT (csiB pv) zs zs.length ++ encB n
/-- what a valid action is -/
theorem act_facts {kd n : Int} {pv : Bool} {zs : List Int} {tx : ByteArray} (h : actB kd n pv zs tx = true) :
    (kd = 1 ∧ okR n) ∨ (kd = 2 ∧ 0 ≤ n ∧ n ≤ 127) ∨ (kd = 3 ∧ 0 ≤ n ∧ n ≤ 127) ∨ (kd = 5 ∧ tx.size ≤ 40) ∨ (kd = 4 ∧ 0 ≤ n ∧ n ≤ 127 ∧ zs.length ≤ 8 ∧ ∀ z ∈ zs, -1 ≤ z ∧ z ≤ 9999) := by
  unfold actB at h
  by_cases k4 : kd = 4
  · rw [if_pos k4] at h
    simp only [Bool.and_eq_true, inR, argsB, decide_eq_true_eq, List.all_eq_true] at h
    obtain ⟨⟨h1, h2, h3⟩, _⟩ := h
    refine .inr (.inr (.inr (.inr ⟨k4, by omega, by omega, by omega, fun z hz => ?_⟩)))
    have := h3 z hz
    simp [argOk, inR] at this
    exact this
  · rw [if_neg k4] at h
    simp only [Bool.and_eq_true] at h
    obtain ⟨_, h⟩ := h
    by_cases k5 : kd = 5
    · rw [if_pos k5] at h
      simp only [Bool.and_eq_true, titleB, decide_eq_true_eq] at h
      exact .inr (.inr (.inr (.inl ⟨k5, h.2.1⟩)))
    · rw [if_neg k5] at h
      simp only [Bool.and_eq_true] at h
      obtain ⟨_, h⟩ := h
      by_cases k1 : kd = 1
      · rw [if_pos k1] at h
        simp [runeB, inR] at h
        exact .inl ⟨k1, by omega, by omega, by omega⟩
      · rw [if_neg k1] at h
        by_cases k2 : kd = 2
        · rw [if_pos k2] at h
          simp [ctlB, inR] at h
          exact .inr (.inl ⟨k2, by omega, by omega⟩)
        · rw [if_neg k2] at h
          by_cases k3 : kd = 3
          · rw [if_pos k3] at h
            simp [escB] at h
            exact .inr (.inr (.inl ⟨k3, by omega, by omega⟩))
          · rw [if_neg k3] at h; cases h
/-- 'string([]byte{byte(n)})' behind a world -/
theorem one_conv {n : Int} (h0 : 0 ≤ n) (h1 : n ≤ 127) (W : World) (B : Nat) (h : W.heap[B]? = some (.cells #[.int .u8 n] 5 (0, 0))) :
    (convert 71 9 (.slice (some ⟨B, 0, none⟩) 1 1)).run Tryd.prog W = .ok (.string (encB n)) W :=
  utfC_of n [n] (Lib.encodeRuneZ_one h0 h1) W B h
theorem new_two (w : World) (o o' : Obj) : ((w.alloc o).alloc o').heap[w.heap.size + 1]? = some o' := by
  have := heap_alloc_new (w.alloc o) o'
  rw [World.size_alloc] at this; exact this
structure ArgK (base : ByteArray) (zs : List Int) (k : Nat) (T : ByteArray) : Prop where
  t : T = argsT base zs k
theorem ArgK.next {base : ByteArray} {zs : List Int} {k : Nat} {T : ByteArray} (h : ArgK base zs k T) {z : Int} (hz : zs[k]? = some z) :
    ArgK base zs (k + 1) (if 0 ≤ z then (if 0 < k then T ++ ⟨#[59]⟩ else T) ++ numB z.toNat else (if 0 < k then T ++ ⟨#[59]⟩ else T)) := by
  have e : zs.getD k 0 = z := by rw [List.getD_eq_getElem?_getD, hz]; rfl
  exact ⟨by rw [h.t, argsT, e]⟩
theorem ArgK.size {base : ByteArray} {zs : List Int} (hz : ∀ z ∈ zs, -1 ≤ z ∧ z ≤ 9999) (hb : base.size ≤ 3) {k : Nat} {T : ByteArray} (h : ArgK base zs k T) : T.size ≤ 3 + 8 * k := by
  rw [h.t]
  clear h
  induction k with
  | zero => exact hb
  | succ k ih =>
    have h1 : ((if 0 < k then argsT base zs k ++ ⟨#[59]⟩ else argsT base zs k) : ByteArray).size ≤ (argsT base zs k).size + 1 := by
      split
      · rw [ByteArray.size_append]; exact Nat.le_refl _
      · omega
    rw [argsT]
    split
    · rename_i h0
      have h2 : (numB (zs.getD k 0).toNat).size ≤ 7 := by
        refine numB_le ?_
        rw [List.getD_eq_getElem?_getD] at h0 ⊢
        cases e : zs[k]? with
        | none => simp
        | some z => have := hz z (List.mem_of_getElem? e); simp; omega
      rw [ByteArray.size_append]; omega
    · omega
attribute [local irreducible] wpList
set_option maxHeartbeats 4000000 in
theorem l03Text_any (kd n : Int) (pv : Bool) (ao : Option Addr) (len cap : Nat) (zs : List Int) (tx : ByteArray) (T0 : ByteArray) (w : World) (ha : At w ao (i64s zs)) (hl : zs.length = len) (hB : actB kd n pv zs tx = true) (hT : actTx kd n pv zs tx = T0) :
    Calls Tryd.prog 29 #[.agg #[.int .i64 kd, .int .i64 n, .bool pv, .slice ao len cap, .string tx]] w fun e w' => e = .returned (.string T0) ∧ Below w.heap.size w w' := by
  have HB0 : Hid (Below w.heap.size w (w.alloc (.cells #[.int .i64 kd, .int .i64 n, .bool pv, .slice ao len cap, .string tx] 40))) := (Below.refl _ _).alloc (Nat.le_refl _) _
  rcases act_facts hB with ⟨rfl, h1⟩ | ⟨rfl, h1, h2⟩ | ⟨rfl, h1, h2⟩ | ⟨rfl, h1⟩ | ⟨rfl, h1, h2, h3, h4⟩
  · have HT : Hid (encB n = T0) := hT
    clear hT hB ha hl
    have HU := Lib.hid (l03Utf_any n h1 (w.alloc (.cells #[.int .i64 1, .int .i64 n, .bool pv, .slice ao len cap, .string tx] 40)))
    go_enter Tryd.func29, Tryd.ntmps29
    go_wp2_with fail
    refine HU.out.mono ?_
    rintro e w1 ⟨rfl, hb1⟩
    have HB1 := Lib.hid (HB0.out.trans (hb1.mono (by simp)))
    have HT1 : Hid ((⟨(Lib.encodeRune n).toArray⟩ : ByteArray) = T0) := HT.out
    generalize (⟨(Lib.encodeRune n).toArray⟩ : ByteArray) = E at *
    clear hb1 HT
    go_wp2
    go_ret
    exact ⟨ret_str HT1.out, HB1.out⟩
  · have HT : Hid (encB n = T0) := hT
    clear hT hB ha hl
    have hs := encB_size n
    have ew := u8w h1 (by omega : n ≤ 255)
    have c0 := one_conv h1 h2 _ (w.heap.size + 1) (new_two w (.cells #[.int .i64 2, .int .i64 n, .bool pv, .slice ao len cap, .string tx] 40) (.cells #[.int .u8 n] 5))
    have HB1 : Hid (Below w.heap.size w ((w.alloc (.cells #[.int .i64 2, .int .i64 n, .bool pv, .slice ao len cap, .string tx] 40)).alloc (.cells #[.int .u8 n] 5))) := HB0.out.alloc HB0.out.size _
    generalize encB n = E at *
    clear h1 h2
    go_enter Tryd.func29, Tryd.ntmps29
    go_wp2
    go_ret
    exact ⟨ret_str HT.out, HB1.out⟩
  · have HT : Hid (⟨#[27]⟩ ++ encB n = T0) := hT
    clear hT hB ha hl
    have hs := encB_size n
    have ew := u8w h1 (by omega : n ≤ 255)
    have c0 := one_conv h1 h2 _ (w.heap.size + 1) (new_two w (.cells #[.int .i64 3, .int .i64 n, .bool pv, .slice ao len cap, .string tx] 40) (.cells #[.int .u8 n] 5))
    have HB1 : Hid (Below w.heap.size w ((w.alloc (.cells #[.int .i64 3, .int .i64 n, .bool pv, .slice ao len cap, .string tx] 40)).alloc (.cells #[.int .u8 n] 5))) := HB0.out.alloc HB0.out.size _
    generalize encB n = E at *
    clear h1 h2
    go_enter Tryd.func29, Tryd.ntmps29
    go_wp2
    go_ret
    exact ⟨ret_str HT.out, HB1.out⟩
  · have HT : Hid (⟨#[27, 93]⟩ ++ tx ++ ⟨#[7]⟩ = T0) := hT
    clear hT hB ha hl
    have hs2 : ((⟨#[27, 93]⟩ : ByteArray) ++ tx).size ≤ 42 := by rw [ByteArray.size_append]; show 2 + _ ≤ _; omega
    go_enter Tryd.func29, Tryd.ntmps29
    go_wp2
    go_ret
    exact ⟨ret_str HT.out, HB0.out⟩
  · have HT : Hid (argsT (csiB pv) zs zs.length ++ encB n = T0) := hT
    have HL := Lib.hid hl
    have hlen : len ≤ 8 := by omega
    have HZ := Lib.hid h4
    have hs := encB_size n
    have HC : Hid (∀ (W : World) (B : Nat), W.heap[B]? = some (.cells #[.int .u8 n] 5 (0, 0)) → (convert 71 9 (.slice (some ⟨B, 0, none⟩) 1 1)).run Tryd.prog W = .ok (.string (encB n)) W) := fun W B h => one_conv h1 h2 W B h
    have ew := u8w h1 (by omega : n ≤ 255)
    generalize encB n = E at *
    have HA : Hid (At (w.alloc (.cells #[.int .i64 4, .int .i64 n, .bool pv, .slice ao len cap, .string tx] 40)) ao (i64s zs)) := ha.below HB0.out (Nat.le_refl _)
    have X0 := Lib.hid (box_new w (.cells #[.int .i64 4, .int .i64 n, .bool pv, .slice ao len cap, .string tx] 40))
    have hzW : w.heap.size < (w.alloc (.cells #[.int .i64 4, .int .i64 n, .bool pv, .slice ao len cap, .string tx] 40)).heap.size := by simp
    obtain ⟨base, hbase⟩ : ∃ b, csiB pv = b := ⟨_, rfl⟩
    have hbs : base.size ≤ 3 := by rw [← hbase]; exact csiB_size pv
    rw [hbase] at HT
    have HBS := Lib.hid hbase
    clear hT hB ha hl h1 h2 h3 h4 hbase
    cases pv
    all_goals
    go_enter Tryd.func29, Tryd.ntmps29
    go_wp2_with fail
    generalize (w.alloc _) = W0 at *
    go_loopw [3, 4] (fun v i wr => ∃ k : Nat, k ≤ len ∧ i = .int .i64 k ∧ ∃ T : ByteArray, v = .string T ∧ Hid (ArgK base zs k T) ∧ Below W0.heap.size W0 wr) (fun _ i _ => len - (intOf i).toNat)
    case atStart => exact ⟨0, Nat.zero_le _, rfl, _, rfl, ⟨HBS.out⟩, Below.refl _ _⟩
    case round =>
      obtain ⟨k, hk, rfl, T, rfl, hAK, hb⟩ := hrel
      have hT67 : T.size ≤ 67 := by have := hAK.out.size HZ.out hbs; omega
      have hT68 : (T ++ (⟨#[59]⟩ : ByteArray)).size ≤ 68 := by rw [ByteArray.size_append]; show _ + 1 ≤ _; omega
      have x1 := box_cells (box_below X0.out hb hzW)
      have hz0 := hb.size
      by_cases hkt : k < len
      · have hkz : k < zs.length := by have := HL.out; omega
        obtain ⟨z, hz⟩ : ∃ z, zs[k] = z := ⟨_, rfl⟩
        have hzg : zs[k]? = some z := by rw [List.getElem?_eq_getElem hkz, hz]
        obtain ⟨z1, z2⟩ := HZ.out z (List.mem_of_getElem? hzg)
        have HN := hAK.out.next hzg
        obtain ⟨b, off, rfl, hc⟩ := (HA.out.below hb (Nat.le_refl _)).get (i64s_ne hkz)
        have hcell : wr.cell? ⟨b, off + k, none⟩ = some (.int .i64 z) := by rw [hc k (by simpa [i64s] using hkz)]; simp [i64s, hz]
        have i1 : (0 : Int) ≤ (k : Int) := by omega
        have i2 : (k : Int) < (len : Int) := by omega
        clear hc hz hzg hAK
        by_cases h0 : 0 ≤ z
        · rw [if_pos h0] at HN
          obtain ⟨zn, rfl⟩ : ∃ zn : Nat, z = (zn : Int) := ⟨z.toNat, by omega⟩
          rw [Int.toNat_natCast] at HN
          have hns : (numB zn).size ≤ 7 := numB_le (by omega)
          have HD := Lib.hid (l00Digits_any zn wr (by omega))
          generalize numB zn = D at *
          by_cases hk0 : 0 < k
          all_goals
            first | rw [if_pos hk0] at HN | rw [if_neg hk0] at HN
            have HN := Lib.hid HN
            have hk1 : ((0 : Int) < (k : Int)) = (0 < k) := by rw [eq_iff_iff]; omega
            go_wp2_with fail
            refine HD.out.mono ?_
            rintro e w1 ⟨rfl, hb1⟩
            have HB2 := Lib.hid (hb.trans (hb1.mono hz0))
            clear hb1 x1 hcell HD hk1
            go_wp2
            go_roundw
            case rel => exact ⟨k + 1, by omega, by go_num, _, rfl, HN, HB2.out⟩
            case measure => simp [intOf] <;> omega
        · rw [if_neg h0] at HN
          have h0' : z < 0 := by omega
          by_cases hk0 : 0 < k
          all_goals
            first | rw [if_pos hk0] at HN | rw [if_neg hk0] at HN
            have HN := Lib.hid HN
            have HB2 := Lib.hid hb
            go_wp2
            all_goals try (exfalso; omega)
            go_roundw
            case rel => exact ⟨k + 1, by omega, by go_num, _, rfl, HN, HB2.out⟩
            case measure => simp [intOf] <;> omega
      · have HE : Hid (T ++ E = T0) := by show _ = _; rw [← HT.out, hAK.out.t, show k = zs.length from by have := HL.out; omega]
        have c0 := HC.out (wr.alloc (.cells #[.int .u8 n] 5)) wr.heap.size (heap_alloc_new _ _)
        have HBB : Hid (Below w.heap.size w (wr.alloc (.cells #[.int .u8 n] 5))) := (HB0.out.trans (hb.mono (by omega))).alloc (by omega) _
        go_wp2
        all_goals try (exfalso; omega)
        go_ret
        exact ⟨ret_str HE.out, HBB.out⟩
set_option maxHeartbeats 4000000 in
theorem actionText_any (kd n : Int) (pv : Bool) (ao : Option Addr) (len cap : Nat) (zs : List Int) (tx : ByteArray) (T0 : ByteArray) (w : World) (ha : At w ao (i64s zs)) (hl : zs.length = len) (hB : actB kd n pv zs tx = true) (hT : actTx kd n pv zs tx = T0) (hg : Pow w) :
    Calls Tryd.prog 32 #[.agg #[.int .i64 kd, .int .i64 n, .bool pv, .slice ao len cap, .string tx]] w fun e w' => e = .returned (.string T0) ∧ Below w.heap.size w w' := by
  have HB0 : Hid (Below w.heap.size w (w.alloc (.cells #[.int .i64 kd, .int .i64 n, .bool pv, .slice ao len cap, .string tx] 40))) := (Below.refl _ _).alloc (Nat.le_refl _) _
  rcases act_facts hB with ⟨rfl, h1⟩ | ⟨rfl, h1, h2⟩ | ⟨rfl, h1, h2⟩ | ⟨rfl, h1⟩ | ⟨rfl, h1, h2, h3, h4⟩
  · have HT : Hid (encB n = T0) := hT
    clear hT hB ha hl
    have he := encode_is (r := n) (by have := h1.1; omega) h1.2.1 h1.2.2
    have ew := i32w (x := n) (by have := h1.1; omega) h1.2.1
    generalize encB n = E at *
    clear h1
    go_enter Tryd.func32, Tryd.ntmps32
    go_wp2
    go_ret
    exact ⟨ret_str HT.out, HB0.out⟩
  · have HT : Hid (encB n = T0) := hT
    clear hT hB ha hl
    have hs := encB_size n
    have he := encode_is h1 (by omega) (by omega : ¬ (55296 ≤ n ∧ n ≤ 57343))
    have ew := i32w h1 (by omega : n ≤ 1114111)
    have HB1 := HB0
    generalize encB n = E at *
    clear h1 h2
    go_enter Tryd.func32, Tryd.ntmps32
    go_wp2
    go_ret
    exact ⟨ret_str HT.out, HB1.out⟩
  · have HT : Hid (⟨#[27]⟩ ++ encB n = T0) := hT
    clear hT hB ha hl
    have hs := encB_size n
    have he := encode_is h1 (by omega) (by omega : ¬ (55296 ≤ n ∧ n ≤ 57343))
    have ew := i32w h1 (by omega : n ≤ 1114111)
    have HB1 := HB0
    generalize encB n = E at *
    clear h1 h2
    go_enter Tryd.func32, Tryd.ntmps32
    go_wp2
    go_ret
    exact ⟨ret_str HT.out, HB1.out⟩
  · have HT : Hid (⟨#[27, 93]⟩ ++ tx ++ ⟨#[7]⟩ = T0) := hT
    clear hT hB ha hl
    have hs2 : ((⟨#[27, 93]⟩ : ByteArray) ++ tx).size ≤ 42 := by rw [ByteArray.size_append]; show 2 + _ ≤ _; omega
    go_enter Tryd.func32, Tryd.ntmps32
    go_wp2
    go_ret
    exact ⟨ret_str HT.out, HB0.out⟩
  · have HT : Hid (argsT (csiB pv) zs zs.length ++ encB n = T0) := hT
    have HL := Lib.hid hl
    have hlen : len ≤ 8 := by omega
    have HZ := Lib.hid h4
    have hs := encB_size n
    have he := encode_is h1 (by omega) (by omega : ¬ (55296 ≤ n ∧ n ≤ 57343))
    have ew := i32w h1 (by omega : n ≤ 1114111)
    generalize encB n = E at *
    have HG : Hid (Pow (w.alloc (.cells #[.int .i64 4, .int .i64 n, .bool pv, .slice ao len cap, .string tx] 40))) := hg.below HB0.out (Nat.le_refl _)
    have HA : Hid (At (w.alloc (.cells #[.int .i64 4, .int .i64 n, .bool pv, .slice ao len cap, .string tx] 40)) ao (i64s zs)) := ha.below HB0.out (Nat.le_refl _)
    have X0 := Lib.hid (box_new w (.cells #[.int .i64 4, .int .i64 n, .bool pv, .slice ao len cap, .string tx] 40))
    have hzW : w.heap.size < (w.alloc (.cells #[.int .i64 4, .int .i64 n, .bool pv, .slice ao len cap, .string tx] 40)).heap.size := by simp
    obtain ⟨base, hbase⟩ : ∃ b, csiB pv = b := ⟨_, rfl⟩
    have hbs : base.size ≤ 3 := by rw [← hbase]; exact csiB_size pv
    rw [hbase] at HT
    have HBS := Lib.hid hbase
    clear hT hB ha hl h1 h2 h3 h4 hbase hg
    cases pv
    all_goals
    go_enter Tryd.func32, Tryd.ntmps32
    go_wp2_with fail
    generalize (w.alloc _) = W0 at *
    go_loopw [3, 40] (fun v i wr => ∃ k : Nat, k ≤ len ∧ i = .int .i64 k ∧ ∃ T : ByteArray, v = .string T ∧ Hid (ArgK base zs k T) ∧ Below W0.heap.size W0 wr) (fun _ i _ => len - (intOf i).toNat)
    case atStart => exact ⟨0, Nat.zero_le _, rfl, _, rfl, ⟨HBS.out⟩, Below.refl _ _⟩
    case round =>
      obtain ⟨k, hk, rfl, T, rfl, hAK, hb⟩ := hrel
      have hT67 : T.size ≤ 67 := by have := hAK.out.size HZ.out hbs; omega
      have hT68 : (T ++ (⟨#[59]⟩ : ByteArray)).size ≤ 68 := by rw [ByteArray.size_append]; show _ + 1 ≤ _; omega
      have x1 := box_cells (box_below X0.out hb hzW)
      have hz0 := hb.size
      by_cases hkt : k < len
      · have hkz : k < zs.length := by have := HL.out; omega
        obtain ⟨z, hz⟩ : ∃ z, zs[k] = z := ⟨_, rfl⟩
        have hzg : zs[k]? = some z := by rw [List.getElem?_eq_getElem hkz, hz]
        obtain ⟨z1, z2⟩ := HZ.out z (List.mem_of_getElem? hzg)
        have HN := hAK.out.next hzg
        obtain ⟨b, off, rfl, hc⟩ := (HA.out.below hb (Nat.le_refl _)).get (i64s_ne hkz)
        have hcell : wr.cell? ⟨b, off + k, none⟩ = some (.int .i64 z) := by rw [hc k (by simpa [i64s] using hkz)]; simp [i64s, hz]
        have i1 : (0 : Int) ≤ (k : Int) := by omega
        have i2 : (k : Int) < (len : Int) := by omega
        clear hc hz hzg hAK
        by_cases h0 : 0 ≤ z
        · rw [if_pos h0] at HN
          obtain ⟨zn, rfl⟩ : ∃ zn : Nat, z = (zn : Int) := ⟨z.toNat, by omega⟩
          rw [Int.toNat_natCast] at HN
          have hns : (numB zn).size ≤ 7 := numB_le (by omega)
          have HD := Lib.hid (itoa_any zn wr (HG.out.below hb (Nat.le_refl _)) (by omega))
          generalize numB zn = D at *
          by_cases hk0 : 0 < k
          all_goals
            first | rw [if_pos hk0] at HN | rw [if_neg hk0] at HN
            have HN := Lib.hid HN
            have hk1 : ((0 : Int) < (k : Int)) = (0 < k) := by rw [eq_iff_iff]; omega
            go_wp2_with fail
            refine HD.out.mono ?_
            rintro e w1 ⟨rfl, hb1⟩
            have HB2 := Lib.hid (hb.trans (hb1.mono hz0))
            clear hb1 x1 hcell HD hk1
            go_wp2
            go_roundw
            case rel => exact ⟨k + 1, by omega, by go_num, _, rfl, HN, HB2.out⟩
            case measure => simp [intOf] <;> omega
        · rw [if_neg h0] at HN
          have h0' : z < 0 := by omega
          by_cases hk0 : 0 < k
          all_goals
            first | rw [if_pos hk0] at HN | rw [if_neg hk0] at HN
            have HN := Lib.hid HN
            have HB2 := Lib.hid hb
            go_wp2
            all_goals try (exfalso; omega)
            go_roundw
            case rel => exact ⟨k + 1, by omega, by go_num, _, rfl, HN, HB2.out⟩
            case measure => simp [intOf] <;> omega
      · have HE : Hid (T ++ E = T0) := by show _ = _; rw [← HT.out, hAK.out.t, show k = zs.length from by have := HL.out; omega]
        have HBB : Hid (Below w.heap.size w wr) := HB0.out.trans (hb.mono (by omega))
        go_wp2
        all_goals try (exfalso; omega)
        go_ret
        exact ⟨ret_str HE.out, HBB.out⟩
def actTR (kd n : Int) (pv : Bool) (zs : List Int) (tx : ByteArray) : ByteArray × Int := if actB kd n pv zs tx = true then (actTx kd n pv zs tx, 0) else (⟨#[]⟩, 1)
set_option maxHeartbeats 1000000 in
theorem specActText_any (kd n : Int) (pv : Bool) (ao : Option Addr) (len cap : Nat) (zs : List Int) (tx : ByteArray) (g : ByteArray) (c : Int) (w : World) (ha : At w ao (i64s zs)) (hl : zs.length = len) (hn : len ≤ maxLen) (ht : tx.size ≤ maxLen) (hR : actTR kd n pv zs tx = (g, c)) :
    Calls Tryd.prog 11 #[.agg #[.int .i64 kd, .int .i64 n, .bool pv, .slice ao len cap, .string tx]] w fun e w' => e = .returned (.tuple #[.string g, .int .i64 c]) ∧ Below w.heap.size w w' := by
  have HB0 : Hid (Below w.heap.size w (w.alloc (.cells #[.int .i64 kd, .int .i64 n, .bool pv, .slice ao len cap, .string tx] 40))) := (Below.refl _ _).alloc (Nat.le_refl _) _
  have HA : Hid (At (w.alloc (.cells #[.int .i64 kd, .int .i64 n, .bool pv, .slice ao len cap, .string tx] 40)) ao (i64s zs)) := ha.below HB0.out (Nat.le_refl _)
  have X0 := Lib.hid (box_new w (.cells #[.int .i64 kd, .int .i64 n, .bool pv, .slice ao len cap, .string tx] 40))
  have hzW : w.heap.size < (w.alloc (.cells #[.int .i64 kd, .int .i64 n, .bool pv, .slice ao len cap, .string tx] 40)).heap.size := by simp
  have HO := Lib.hid (specActionOK_any kd n pv ao len cap zs tx _ HA.out hl hn ht)
  have HL := Lib.hid hl
  cases hB : actB kd n pv zs tx
  · rw [hB] at HO
    rw [actTR, hB, if_neg (by decide)] at hR
    obtain ⟨rfl, rfl⟩ := Prod.mk.inj hR
    clear hR ha hl hB
    go_enter Tryd.func11, Tryd.ntmps11
    go_wp2_with fail
    refine HO.out.mono ?_
    rintro e w1 ⟨rfl, hb1⟩
    have HB1 := Lib.hid (HB0.out.trans (hb1.mono (Nat.le_of_lt hzW)))
    clear hb1
    go_wp2
    go_ret2
    exact ⟨rfl, HB1.out⟩
  · rw [hB] at HO
    rw [actTR, hB, if_pos rfl] at hR
    obtain ⟨h1, rfl⟩ := Prod.mk.inj hR
    have HT := Lib.hid h1
    have HBB := Lib.hid hB
    clear hR ha hl hB h1
    go_enter Tryd.func11, Tryd.ntmps11
    go_wp2_with fail
    refine HO.out.mono ?_
    generalize (w.alloc _) = W0 at *
    rintro e w1 ⟨rfl, hb1⟩
    have x1 := box_cells (box_below X0.out hb1 hzW)
    have HB1 := Lib.hid (HB0.out.trans (hb1.mono (Nat.le_of_lt hzW)))
    have HA1 := Lib.hid (HA.out.below hb1 (Nat.le_refl _))
    clear hb1
    go_wp2_with fail
    refine (l03Text_any kd n pv ao len cap zs tx g _ HA1.out HL.out HBB.out HT.out).mono ?_
    rintro e w2 ⟨rfl, hb2⟩
    have HB2 := Lib.hid (HB1.out.trans (hb2.mono HB1.out.size))
    clear hb2
    go_wp2
    go_ret2
    exact ⟨rfl, HB2.out⟩
set_option maxHeartbeats 1000000 in
theorem implActText_any (kd n : Int) (pv : Bool) (ao : Option Addr) (len cap : Nat) (zs : List Int) (tx : ByteArray) (g : ByteArray) (c : Int) (w : World) (ha : At w ao (i64s zs)) (hl : zs.length = len) (hn : len ≤ maxLen) (ht : tx.size ≤ maxLen) (hR : actTR kd n pv zs tx = (g, c)) (hg : Pow w) :
    Calls Tryd.prog 13 #[.agg #[.int .i64 kd, .int .i64 n, .bool pv, .slice ao len cap, .string tx]] w fun e w' => e = .returned (.tuple #[.string g, .int .i64 c]) ∧ Below w.heap.size w w' := by
  have HB0 : Hid (Below w.heap.size w (w.alloc (.cells #[.int .i64 kd, .int .i64 n, .bool pv, .slice ao len cap, .string tx] 40))) := (Below.refl _ _).alloc (Nat.le_refl _) _
  have HA : Hid (At (w.alloc (.cells #[.int .i64 kd, .int .i64 n, .bool pv, .slice ao len cap, .string tx] 40)) ao (i64s zs)) := ha.below HB0.out (Nat.le_refl _)
  have X0 := Lib.hid (box_new w (.cells #[.int .i64 kd, .int .i64 n, .bool pv, .slice ao len cap, .string tx] 40))
  have hzW : w.heap.size < (w.alloc (.cells #[.int .i64 kd, .int .i64 n, .bool pv, .slice ao len cap, .string tx] 40)).heap.size := by simp
  have HG : Hid (Pow (w.alloc (.cells #[.int .i64 kd, .int .i64 n, .bool pv, .slice ao len cap, .string tx] 40))) := hg.below HB0.out (Nat.le_refl _)
  have HO := Lib.hid (isAction_any kd n pv ao len cap zs tx _ HA.out hl hn ht)
  have HL := Lib.hid hl
  cases hB : actB kd n pv zs tx
  · rw [hB] at HO
    rw [actTR, hB, if_neg (by decide)] at hR
    obtain ⟨rfl, rfl⟩ := Prod.mk.inj hR
    clear hR ha hl hB hg
    go_enter Tryd.func13, Tryd.ntmps13
    go_wp2_with fail
    refine HO.out.mono ?_
    rintro e w1 ⟨rfl, hb1⟩
    have HB1 := Lib.hid (HB0.out.trans (hb1.mono (Nat.le_of_lt hzW)))
    clear hb1
    go_wp2
    go_ret2
    exact ⟨rfl, HB1.out⟩
  · rw [hB] at HO
    rw [actTR, hB, if_pos rfl] at hR
    obtain ⟨h1, rfl⟩ := Prod.mk.inj hR
    have HT := Lib.hid h1
    have HBB := Lib.hid hB
    clear hR ha hl hB h1 hg
    go_enter Tryd.func13, Tryd.ntmps13
    go_wp2_with fail
    refine HO.out.mono ?_
    generalize (w.alloc _) = W0 at *
    rintro e w1 ⟨rfl, hb1⟩
    have x1 := box_cells (box_below X0.out hb1 hzW)
    have HB1 := Lib.hid (HB0.out.trans (hb1.mono (Nat.le_of_lt hzW)))
    have HA1 := Lib.hid (HA.out.below hb1 (Nat.le_refl _))
    have HG1 := Lib.hid (HG.out.below hb1 (Nat.le_refl _))
    clear hb1
    go_wp2_with fail
    refine (actionText_any kd n pv ao len cap zs tx g _ HA1.out HL.out HBB.out HT.out HG1.out).mono ?_
    rintro e w2 ⟨rfl, hb2⟩
    have HB2 := Lib.hid (HB1.out.trans (hb2.mono HB1.out.size))
    clear hb2
    go_wp2
    go_ret2
    exact ⟨rfl, HB2.out⟩
end Go.Proofs.YtfflmmkkgcijgaaDoor
