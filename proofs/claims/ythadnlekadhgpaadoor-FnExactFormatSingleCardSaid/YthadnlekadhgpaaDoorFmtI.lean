/-
  FormatSingle of the program gives the text of the word. The word fits its kind; the library's tables lie as they are laid.
-/
import Derived.Test.YthadnlekadhgpaaDoorFmtS
import Derived.Test.YthadnlekadhgpaaDoorShelf
import Derived.Test.YthadnlekadhgpaaDoorBitP
import Derived.Lib.SmallJoins
namespace Go.Proofs.YthadnlekadhgpaaDoor
open Go.RowKit
def dbTab : List Int := Lib.deBruijn32tab.map Int.ofNat
structure TabsAt (w : World) : Prop where
  pow : Lib.TabIs Tryd.prog w "internal/strconv.uint64pow10" .u64 Lib.pow10Tab
  bit : Lib.TabIs Tryd.prog w "math/bits.deBruijn32tab" .u8 dbTab
theorem gPow : Tryd.prog.globalNamed "internal/strconv.uint64pow10" = some 3 := by kernel_rfl
theorem gBit : Tryd.prog.globalNamed "math/bits.deBruijn32tab" = some 1 := by kernel_rfl
theorem TabsAt.keep {w w' : World} (h : TabsAt w) (hb : Below w.heap.size w w') : TabsAt w' :=
  ⟨Go.Joins.var_stays gPow h.pow hb (Nat.le_refl _), Go.Joins.var_stays gBit h.bit hb (Nat.le_refl _)⟩
theorem TabsAt.at {w : World} (h : TabsAt w) : TabAt 1 Lib.deBruijn32tab w := fun j hj => by
  have := h.bit.cell gBit j (by unfold dbTab; rw [List.length_map]; exact hj)
  rw [this]
  unfold dbTab
  rw [List.getD_eq_getElem?_getD, List.getD_eq_getElem?_getD, List.getElem?_map, List.getElem?_eq_getElem hj]
  rfl
theorem below_grow (w : World) (k : Nat) (os : Array Obj) : Below w.heap.size w (Go.Sort.grow (w.drewN k) os) :=
  ⟨rfl, rfl, rfl, by simp [Go.Sort.grow], fun k hk => by
    show (w.heap ++ os)[k]? = w.heap[k]?
    rw [Array.getElem?_append_left hk]⟩
theorem isFinite_any (x : Nat) (h : x < 4294967296) (w : World) : Calls Tryd.prog 21 #[.float .f32 x] w fun e w' => e = .returned (.bool (finB x)) ∧ w = w' := by
  have hb := and_low31 x h
  have H : finB x = decide (((x % 2147483648 : Nat) : Int) ≤ 2139095039) := by unfold finB; apply decide_eq_decide.2; omega
  have H' := Lib.hid H
  clear H
  generalize x % 2147483648 = r at *
  go_enter Tryd.func21, Tryd.ntmps21
  go_wp2
  go_ret
  exact ⟨by rw [H'.out]; rfl, rfl⟩
set_option maxHeartbeats 2000000 in
set_option maxRecDepth 100000 in
theorem format_i (x : Nat) (h : x < 4294967296) (w : World) (hT : TabsAt w) : Calls Tryd.prog 7 #[.float .f32 x] w (StrAns (fmtS x) w) := by
  cases hf : finB x with
  | false =>
    have E := Lib.hid (show fmtS x = [] ∧ x < 4294967296 from ⟨by unfold fmtS; rw [hf]; rfl, h⟩)
    clear h hT
    go_enter Tryd.func7, Tryd.ntmps7
    go_wp2_with (go_at_call 21; refine (isFinite_any _ E.out.2 _).mono ?_; rintro e w' ⟨rfl, rfl⟩)
    go_ret
    exact ⟨by rw [E.out.1]; rfl, Below.refl _ _⟩
  | true =>
    have hr : x % 2147483648 < 2139095040 := by unfold finB at hf; simpa using hf
    have f1 := and_low23 x h
    have f2 : bits BinOp.and IntKind.u32 ((x : Int) / 8388608) 255 = ((x / 8388608 % 256 : Nat) : Int) := by
      have := and_low8 (x / 8388608) (by omega)
      simpa using this
    have f3 := or_23 (x % 8388608) (by omega)
    have key : x % 2147483648 = (x / 8388608 % 256) * 8388608 + x % 8388608 := by omega
    have hfl : x % 8388608 < 8388608 := by omega
    have hxl : x / 8388608 % 256 < 256 := by omega
    have HS : Hid (fmtS x = (if 2147483648 ≤ x then [45] else []) ++ fmtR (x % 2147483648)) := Lib.hid (by
      unfold fmtS sgnT
      rw [hf, if_pos rfl])
    have hsg : ((x : Int) / 2147483648 == 1) = decide (2147483648 ≤ x) := by
      by_cases hx : 2147483648 ≤ x
      · rw [decide_eq_true hx]; simp; omega
      · rw [decide_eq_false hx]; simp; omega
    have HT := Lib.hid (show _ ∧ _ from ⟨hT, h⟩)
    generalize x % 2147483648 = r at *
    generalize x % 8388608 = f at *
    generalize x / 8388608 % 256 = ex at *
    have hw : wrap64 (ex : Int) = ex := by unfold wrap64; omega
    by_cases hx : 2147483648 ≤ x
    all_goals
      first | rw [decide_eq_true hx] at hsg | rw [decide_eq_false hx] at hsg
      first | rw [if_pos hx] at HS | rw [if_neg hx] at HS
      clear hx h hT
      by_cases h0 : ex = 0
      · subst h0
        obtain rfl : r = f := by omega
        clear f3 key
        by_cases hr0 : r = 0
        · subst hr0
          go_enter Tryd.func7, Tryd.ntmps7
          go_wp2_with (first
            | (go_at_call 21; refine (isFinite_any _ HT.out.2 _).mono ?_; rintro e w' ⟨rfl, rfl⟩)
            | (go_at_call 23; fail)
            | (go_at_call 24; fail)
            | go_in)
          go_ret
          refine ⟨?_, Below.refl _ _⟩
          rw [HS.out]
          rfl
        · have hm : mOf r = r := by unfold mOf; rw [if_pos hfl]
          have ht : tOf r = 0 := by unfold tOf; omega
          have hmz : ((r : Int) == 0) = false := by simp; omega
          have HR := Lib.hid (show r ≠ 0 ∧ _ from ⟨hr0, hr⟩)
          go_enter Tryd.func7, Tryd.ntmps7
          go_wp2_with (first
            | (go_at_call 21; refine (isFinite_any _ HT.out.2 _).mono ?_; rintro e w' ⟨rfl, rfl⟩)
            | (go_at_call 22; go_in)
            | fail)
          clear f1 f2 hw hxl hsg hmz
          refine (Tryd.bits_TrailingZeros32 r (by omega) _ (fun _ => HT.out.1.at)).mono ?_
          rintro e w' ⟨rfl, rfl⟩
          rw [show Lib.ctz 32 r = ctzM r from rfl]
          have HE := Lib.hid (show expR r = -149 + (ctzM r : Int) by unfold expR; rw [ht, hm]; omega)
          have HM := Lib.hid hm.symm
          have hM0 : 0 < r := by omega
          have hMl : r < 16777216 := by omega
          clear hm ht hfl hr hr0
          obtain ⟨M, hMr⟩ : ∃ M, M = r := ⟨_, rfl⟩
          subst hMr
          have hc := ctz_lt hM0 hMl
          have hos := odd_split hM0 (by omega)
          have hol := Nat.lt_of_le_of_lt (odd_le M) hMl
          have hq : wrap64 ((M : Int) / 2 ^ ctzM M) = (oddM M : Int) := by
            have : ((oddM M : Nat) : Int) = (M : Int) / 2 ^ ctzM M := by unfold oddM; simp
            rw [← this]; unfold wrap64; omega
          generalize ctzM M = c at *
          obtain ⟨o, ho⟩ : ∃ o, oddM M = o := ⟨_, rfl⟩
          rw [ho] at hq hol
          have HO := Lib.hid ho
          clear ho hos
          go_wp2_with fail
          refine (Tryd.strconv_Itoa (o : Int) (by omega) (by omega) _ HT.out.1.pow).mono ?_
          rintro e w1 ⟨rfl, k1, os1, rfl⟩
          have HB1 := Lib.hid (below_grow w' k1 os1)
          generalize Go.Sort.grow (w'.drewN k1) os1 = w1 at *
          obtain ⟨s1, hs1⟩ : ∃ s1, Lib.itoa (o : Int) = s1 := ⟨_, rfl⟩
          have hl1 : s1.length ≤ 21 := by rw [← hs1]; exact Lib.itoa_length_le _ (by omega) (by omega)
          rw [hs1]
          have HI1 := Lib.hid hs1
          clear hs1 hq
          have hbd := expR_bd HR.out.1 HR.out.2
          have hE := HE.out
          go_wp2_with fail
          rw [← hE]
          refine (Tryd.strconv_Itoa _ (by omega) (by omega) _ (HT.out.1.keep HB1.out).pow).mono ?_
          rintro e w2 ⟨rfl, k2, os2, rfl⟩
          have HB2 := Lib.hid (HB1.out.trans ((below_grow w1 k2 os2).mono HB1.out.size))
          generalize Go.Sort.grow (w1.drewN k2) os2 = w2 at *
          have hl2 := Lib.itoa_length_le _ (show -9223372036854775808 ≤ expR _ from Int.le_trans (by decide) hbd.1) (Int.le_trans hbd.2 (by decide))
          clear hE hbd
          obtain ⟨s2, hs2⟩ : ∃ s2, Lib.itoa (expR M) = s2 := ⟨_, rfl⟩
          rw [hs2] at hl2 ⊢
          have HI2 := Lib.hid hs2
          clear hs2
          go_wp2_with fail
          go_ret
          refine ⟨?_, HB2.out⟩
          have hfr : fmtR M = s1 ++ ([112] ++ s2) := by unfold fmtR; rw [if_neg HR.out.1, ← HM.out, HO.out, HI1.out, HI2.out]
          rw [HS.out, hfr, ba_three]; rfl
      · have hm : mOf r = 8388608 + f := by unfold mOf; rw [if_neg (by omega)]; omega
        have ht : tOf r = ex - 1 := by unfold tOf; omega
        have hez : ((ex : Int) == 0) = false := by simp; omega
        have HR := Lib.hid (show r ≠ 0 ∧ _ from ⟨by omega, hr⟩)
        obtain ⟨M, hMf⟩ : ∃ M, 8388608 + f = M := ⟨_, rfl⟩
        have hmz : ((M : Int) == 0) = false := by simp; omega
        have hM0 : 0 < M := by omega
        have hMl : M < 16777216 := by omega
        have HE := Lib.hid (show expR r = (ex : Int) - 150 + (ctzM M : Int) by unfold expR; rw [ht, hm, hMf]; omega)
        have HM := Lib.hid (show M = mOf r by omega)
        rw [hMf] at f3
        clear hm ht hMf key hr h0 hfl
        go_enter Tryd.func7, Tryd.ntmps7
        go_wp2_with (first
          | (go_at_call 21; refine (isFinite_any _ HT.out.2 _).mono ?_; rintro e w' ⟨rfl, rfl⟩)
          | (go_at_call 22; go_in)
          | fail)
        clear f1 f2 f3 hw hsg hez hmz
        refine (Tryd.bits_TrailingZeros32 M (by omega) _ (fun _ => HT.out.1.at)).mono ?_
        rintro e w' ⟨rfl, rfl⟩
        rw [show Lib.ctz 32 M = ctzM M from rfl]
        have hc := ctz_lt hM0 hMl
        have hos := odd_split hM0 (by omega)
        have hol := Nat.lt_of_le_of_lt (odd_le M) hMl
        have hq : wrap64 ((M : Int) / 2 ^ ctzM M) = (oddM M : Int) := by
          have : ((oddM M : Nat) : Int) = (M : Int) / 2 ^ ctzM M := by unfold oddM; simp
          rw [← this]; unfold wrap64; omega
        generalize ctzM M = c at *
        obtain ⟨o, ho⟩ : ∃ o, oddM M = o := ⟨_, rfl⟩
        rw [ho] at hq hol
        have HO := Lib.hid ho
        clear ho hos
        go_wp2_with fail
        refine (Tryd.strconv_Itoa (o : Int) (by omega) (by omega) _ HT.out.1.pow).mono ?_
        rintro e w1 ⟨rfl, k1, os1, rfl⟩
        have HB1 := Lib.hid (below_grow w' k1 os1)
        generalize Go.Sort.grow (w'.drewN k1) os1 = w1 at *
        obtain ⟨s1, hs1⟩ : ∃ s1, Lib.itoa (o : Int) = s1 := ⟨_, rfl⟩
        have hl1 : s1.length ≤ 21 := by rw [← hs1]; exact Lib.itoa_length_le _ (by omega) (by omega)
        rw [hs1]
        have HI1 := Lib.hid hs1
        clear hs1 hq
        have hbd := expR_bd HR.out.1 HR.out.2
        have hE := HE.out
        go_wp2_with fail
        rw [← hE]
        refine (Tryd.strconv_Itoa _ (by omega) (by omega) _ (HT.out.1.keep HB1.out).pow).mono ?_
        rintro e w2 ⟨rfl, k2, os2, rfl⟩
        have HB2 := Lib.hid (HB1.out.trans ((below_grow w1 k2 os2).mono HB1.out.size))
        generalize Go.Sort.grow (w1.drewN k2) os2 = w2 at *
        have hl2 := Lib.itoa_length_le _ (show -9223372036854775808 ≤ expR _ from Int.le_trans (by decide) hbd.1) (Int.le_trans hbd.2 (by decide))
        clear hE hbd
        obtain ⟨s2, hs2⟩ : ∃ s2, Lib.itoa (expR r) = s2 := ⟨_, rfl⟩
        rw [hs2] at hl2 ⊢
        have HI2 := Lib.hid hs2
        clear hs2
        go_wp2_with fail
        go_ret
        refine ⟨?_, HB2.out⟩
        have hfr : fmtR r = s1 ++ ([112] ++ s2) := by unfold fmtR; rw [if_neg HR.out.1, ← HM.out, HO.out, HI1.out, HI2.out]
        rw [HS.out, hfr, ba_three]; rfl
end Go.Proofs.YthadnlekadhgpaaDoor
