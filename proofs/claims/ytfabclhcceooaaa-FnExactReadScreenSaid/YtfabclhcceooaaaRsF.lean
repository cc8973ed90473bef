/-
  Contract of readFields of the given program, with the capacity. Condition: a bound on the length.
-/
import Derived.Test.YtfabclhcceooaaaReadFields
import Derived.WalkSpells
namespace Go.Proofs.Ytfabclhcceooaaa
open Go.ChangeShapes Go.WideShapes Go.ChangeAt Go.RowKit
set_option linter.unusedVariables false
set_option maxRecDepth 20000

theorem own_cap {base : Nat} {w : World} {e : TypeId} {size : Nat} {ao : Option Addr} {n cap : Nat} {xs : List Value} (h : w.ownsRow base e size (.slice ao n cap) n xs) : n ≤ cap := by
  rcases h.2 with ⟨h1, _⟩ | ⟨_, _, _, h1, _, _, hle, _⟩
  · cases h1; exact Nat.le_refl _
  · cases h1; exact hle

set_option maxHeartbeats 1000000 in
theorem readFields_cap (s : ByteArray) (w : World) (hs : s.size ≤ 65536) :
    Calls Try.prog 105 #[.string s] w fun e w' => ∃ ao n cap, e = .returned (.tuple #[.slice ao n cap, .bool (fieldsF s).isSome]) ∧ (∀ xs, fieldsF s = some xs → xs.length = n ∧ n ≤ cap ∧ Mine w.heap.size w' ao (strs xs)) ∧ Below w.heap.size w w' := by
  obtain ⟨i0, hi, hz0, hz1, hz2⟩ := info_parts Try.info_istr
  cases he : s.toList.isEmpty
  case true =>
    have H : Hid (fieldsF s = none) := by
      have : emptyB s = true := he
      rw [emptyB_eq, decide_eq_true_eq] at this
      show fieldsF s = none; rw [fieldsF, dif_neg (by omega)]
    go_enter Try.func105, Try.ntmps105
    go_wp2
    go_ret2
    exact ⟨_, _, _, by rw [H.out]; rfl, by rw [H.out]; exact (fun xs h => by cases h), Below.refl _ _⟩
  have h0 : 0 < s.size := by
    have : emptyB s = false := he
    rw [emptyB_eq, decide_eq_false_iff_not] at this
    omega
  by_cases h60 : 60 < s[0].toNat
  · have H : Hid (fieldsF s = none) := by show fieldsF s = none; rw [fieldsF, dif_pos h0, if_pos h60]
    have h60' : (60 : Int) < (s[0].toNat : Int) := by omega
    go_enter Try.func105, Try.ntmps105
    go_wp2
    go_ret2
    exact ⟨_, _, _, by rw [H.out]; rfl, by rw [H.out]; exact (fun xs h => by cases h), Below.refl _ _⟩
  · have H : Hid (fieldsF s = fR s s[0].toNat 1) := by show fieldsF s = _; rw [fieldsF, dif_pos h0, if_neg h60]
    obtain ⟨F, hF⟩ : ∃ F, F = fieldsF s := ⟨_, rfl⟩
    rw [← hF]
    rw [← hF] at H
    clear hF
    have h60' : ¬ (60 : Int) < (s[0].toNat : Int) := by omega
    go_enter Try.func105, Try.ntmps105
    go_wp2
    go_loopw [4, 5, 23] (fun v b i wr => ∃ j : Nat, j ≤ s[0].toNat ∧ i = .int .u8 (j : Int) ∧ ∃ (p : Nat) (r : ByteArray) (xs : List ByteArray) (ao : Option Addr) (cap : Nat), b = .string r ∧ p ≤ s.size ∧ Hid (r = s.extract p s.size) ∧ v = .slice ao j cap ∧ Hid (F = (fR s (s[0].toNat - j) p).map (xs ++ ·)) ∧ wr.ownsRow w.heap.size 9 1 (.slice ao j cap) j (strs xs) ∧ Below w.heap.size w wr) (fun _ _ i _ => s[0].toNat - (intOf i).toNat)
    case atStart => exact ⟨0, Nat.zero_le _, rfl, 1, _, [], none, 0, rfl, h0, rfl, rfl, by show _ = _; rw [H.out]; simp, World.ownsRow_nil _ _ _ _, Below.refl _ _⟩
    case round =>
      obtain ⟨j, hj, rfl, p, r, xs, ao, cap, rfl, hp, hr, rfl, hf, hown, hb⟩ := hrel
      have hrs : r.size + p = s.size := by rw [hr.out, ByteArray.size_extract]; omega
      by_cases hjt : j < s[0].toNat
      · have hjt' : (j : Int) < (s[0].toNat : Int) := by omega
        obtain ⟨k, hk⟩ : ∃ k, s[0].toNat - j = k + 1 := ⟨s[0].toNat - j - 1, by omega⟩
        rw [hk] at hf
        have HK := Lib.hid hk
        clear hk
        by_cases h2 : r.size < 2
        · have hN : Hid (F = none) := by show _ = _; rw [hf.out, fR_short (by omega)]; rfl
          clear hrs
          go_wp2
          go_ret2
          exact ⟨_, _, _, by rw [hN.out]; rfl, by rw [hN.out]; exact (fun xs h => by cases h), hb⟩
        obtain ⟨n, hn⟩ : ∃ n, numL (s.extract p (p + 2)).data.toList = n := ⟨_, rfl⟩
        have hn2 : n ≤ 65535 := by rw [← hn]; exact numL2 _ (by rw [size_list, ByteArray.size_extract]; omega)
        have hnum := Lib.hid (bigNumber_any (r.extract 0 2) wr (by rw [ByteArray.size_extract]; omega))
        rw [show (r.extract 0 2).data.toList = (s.extract p (p + 2)).data.toList from by rw [hr.out, ext_ext _ _ _ _ (by omega)]; rfl, hn] at hnum
        by_cases h3 : 20000 < n
        · have hN : Hid (F = none) := by show _ = _; rw [hf.out, fR_big hn h3]; rfl
          clear hrs hn
          go_wp2_with (go_at_call 107; refine hnum.out.mono ?_; rintro e w' ⟨rfl, rfl⟩)
          go_ret2
          exact ⟨_, _, _, by rw [hN.out]; rfl, by rw [hN.out]; exact (fun xs h => by cases h), hb⟩
        by_cases h4 : r.size < 2 + n
        · have hN : Hid (F = none) := by show _ = _; rw [hf.out, fR_less hn (by omega)]; rfl
          clear hrs hn
          go_wp2_with (go_at_call 107; refine hnum.out.mono ?_; rintro e w' ⟨rfl, rfl⟩)
          go_ret2
          exact ⟨_, 0, _, by rw [hN.out]; rfl, by rw [hN.out]; exact (fun xs h => by cases h), hb⟩
        have hs2 : Hid (F = (fR s k (p + 2 + n)).map ((xs ++ [s.extract (p + 2) (p + 2 + n)]) ++ ·)) := by show _ = _; rw [hf.out, fR_step xs hn (by omega) (by omega)]
        have hx : Hid (r.extract 2 (2 + n) = s.extract (p + 2) (p + 2 + n)) := by show _ = _; rw [hr.out, ext_ext _ _ _ _ (by omega), ← Nat.add_assoc]
        have hd : Hid (r.extract (2 + n) r.size = s.extract (p + 2 + n) s.size) := by
          show _ = _
          rw [show r.size = s.size - p from by omega, hr.out, ext_ext _ _ _ _ (by omega)]
          congr 1 <;> omega
        have hp2 : p + 2 + n ≤ s.size := by omega
        clear hrs hn hf
        go_wp2_with (first
          | (go_at_call 107; refine hnum.out.mono ?_; rintro e w' ⟨rfl, rfl⟩)
          | (at_builtin; refine wpList_append_lies _ rfl _ _ 35 rfl w.heap.size 9 i0 (.string ⟨#[]⟩) 1 16 Try.underlying35 hi hz0 hz1 hz2 rfl (by decide) _ _ _ rfl (hown.alloc _) ⟨wr.heap.size, 0, none⟩ 1 1 [.string (r.extract 2 (2 + n))] rfl rfl (fun j u hu => World.news_of_block (heap_alloc_new _ _) j u hu) (by intro u hu; simp at hu; subst hu; rfl) (by decide) (by unfold maxLen; omega) (by omega) (by have := hb.size; simp; omega) _ rfl ?_; intro g2 cap2 w2 hown2 hgrow2 hlie2 hlt2))
        have hb2 : Below w.heap.size w w2 := (hb.alloc (by exact hb.size) _).grown hgrow2 (by have := hb.size; simp; omega) (fun j hj => (hown.lt j hj).1)
        clear hown hgrow2 hlie2 hlt2 hb
        go_roundw
        case rel => exact ⟨j + 1, by omega, by go_num, p + 2 + n, _, xs ++ [s.extract (p + 2) (p + 2 + n)], _, cap2, rfl, hp2, hd, rfl, by rw [show s[0].toNat - (j + 1) = k from by have := HK.out; omega]; exact hs2, by rw [hx.out] at hown2; simpa [strs] using hown2, hb2⟩
        case measure => simp [intOf]; omega
      · have hjt' : ¬ (j : Int) < (s[0].toNat : Int) := by omega
        have hB : Hid (r.toList.isEmpty = F.isSome) := by
          show _ = _
          have e1 : emptyB r = decide (r.size = 0) := emptyB_eq r
          have e2 : r.toList.isEmpty = decide (r.size = 0) := e1
          rw [e2, hf.out, show s[0].toNat - j = 0 from by omega, fR]
          by_cases hq : p = s.size
          · rw [if_pos hq]; show decide _ = true; exact decide_eq_true (by omega)
          · rw [if_neg hq]; show decide _ = false; exact decide_eq_false (by omega)
        have hX : Hid (∀ ys, F = some ys → ys = xs) := by
          intro ys hy
          have := hf.out
          rw [hy, show s[0].toNat - j = 0 from by omega, fR] at this
          split at this
          · simpa using this
          · cases this
        have hL : Hid (xs.length = j) := by show _ = _; have := hown.1; simpa [strs] using this
        clear hrs
        go_wp2
        go_ret2
        exact ⟨ao, j, cap, by rw [← hB.out]; rfl, fun ys hy => by rw [hX.out ys hy]; exact ⟨hL.out, own_cap hown, own_at hown⟩, hb⟩

end Go.Proofs.Ytfabclhcceooaaa
