/-
  FormatSingle of the reference gives the text of the word. The word fits its kind.
-/
import Derived.Test.YtmfgffgfggkgcaaFmtN
import Derived.Test.YtmfgffgfggkgcaaAbs
import Derived.Test.YtmfgffgfggkgcaaSl
namespace Go.Proofs.Ytmfgffgfggkgcaa
open Go.RowKit
theorem l1Finite_any (x : Nat) (w : World) : Calls Try.prog 53 #[.float .f32 x] w fun e w' => ∃ n, e = .returned (.bool (finB x)) ∧ w' = w.drewN n := by
  have H := Lib.hid (finS_finB x)
  go_enter Try.func53, Try.ntmps53
  go_wp2
  go_ret
  exact ⟨_, by rw [← H.out]; rfl, rfl⟩
theorem ba_three (a b c : List UInt8) : (⟨a.toArray⟩ : ByteArray) ++ (⟨b.toArray⟩ : ByteArray) ++ (⟨#[112]⟩ : ByteArray) ++ (⟨c.toArray⟩ : ByteArray) = ⟨(a ++ (b ++ ([112] ++ c))).toArray⟩ := by
  rw [show (⟨#[112]⟩ : ByteArray) = ⟨[112].toArray⟩ from rfl, ba_append, ba_append, ba_append]
  simp
theorem below_drewN_trans {w w' : World} {n : Nat} (h : Below (w.drewN n).heap.size (w.drewN n) w') : Below w.heap.size w w' := (below_drewN' (n := n) (Below.refl w.heap.size w)).trans (h.mono (below_drewN' (n := n) (Below.refl w.heap.size w)).size)
set_option maxHeartbeats 2000000 in
set_option maxRecDepth 100000 in
theorem format_s (x : Nat) (h : x < 4294967296) (w : World) : Calls Try.prog 54 #[.float .f32 x] w (StrAns (fmtS x) w) := by
  cases hf : finB x with
  | false =>
    have E := Lib.hid (show fmtS x = [] by unfold fmtS; rw [hf]; rfl)
    clear h
    go_enter Try.func54, Try.ntmps54
    go_wp2_with (go_at_call 53; refine (l1Finite_any _ _).mono ?_; rintro e w' ⟨n, rfl, rfl⟩)
    go_ret
    exact ⟨by rw [E.out]; rfl, below_drewN' (Below.refl _ _)⟩
  | true =>
    have hr : x % 2147483648 < 2139095040 := by unfold finB at hf; simpa using hf
    have hz := zero_test hf
    by_cases h0 : x % 2147483648 = 0
    · rw [decide_eq_true h0] at hz
      have hx : x = 0 ∨ x = 2147483648 := by omega
      clear hz
      rcases hx with rfl | rfl
      · have q0 : (FloatKind.f32.format.order 0 0 == some Ordering.eq) = true := by decide +kernel
        have q1 : (FloatKind.f32.format.order (fop BinOp.quo FloatKind.f32 1065353216 0) 0 == some Ordering.lt) = false := by decide +kernel
        go_enter Try.func54, Try.ntmps54
        go_wp2_with (go_at_call 53; refine (l1Finite_any _ _).mono ?_; rintro e w' ⟨n, rfl, rfl⟩)
        go_ret
        exact ⟨rfl, below_drewN' (Below.refl _ _)⟩
      · have q0 : (FloatKind.f32.format.order 2147483648 0 == some Ordering.eq) = true := by decide +kernel
        have q1 : (FloatKind.f32.format.order (fop BinOp.quo FloatKind.f32 1065353216 2147483648) 0 == some Ordering.lt) = true := by decide +kernel
        go_enter Try.func54, Try.ntmps54
        go_wp2_with (go_at_call 53; refine (l1Finite_any _ _).mono ?_; rintro e w' ⟨n, rfl, rfl⟩)
        go_ret
        exact ⟨rfl, below_drewN' (Below.refl _ _)⟩
    · rw [decide_eq_false h0] at hz
      have hn := neg_test h hf
      have ha := absS_word h hf
      have hwd := cval_some (wide_odd h0 hr)
      have ho := odd_split (mOf_pos h0) (by have := mOf_lt (x % 2147483648); omega)
      have hol := Nat.lt_of_le_of_lt (odd_le (mOf (x % 2147483648))) (mOf_lt _)
      have hc := ctz_lt (mOf_pos h0) (mOf_lt _)
      have ht := tOf_le hr
      have hbd := expR_bd h0 hr
      have hE : expR (x % 2147483648) = ((tOf (x % 2147483648) + 925 + ctzM (mOf (x % 2147483648)) : Nat) : Int) - 1074 := by unfold expR; omega
      have HF : Hid (fmtS x = (if 2147483648 < x then [45] else []) ++ (Lib.itoa (oddM (mOf (x % 2147483648))) ++ ([112] ++ Lib.itoa (expR (x % 2147483648))))) := Lib.hid (by
        unfold fmtS fmtR sgnT
        rw [hf, if_neg h0, if_pos rfl]
        congr 1
        by_cases hx : 2147483648 < x
        · rw [if_pos hx, if_pos (by omega)]
        · rw [if_neg hx, if_neg (by omega)])
      have ho2 := ho.2.1
      have hJ0 : tOf (x % 2147483648) + 925 + ctzM (mOf (x % 2147483648)) ≤ 1201 := by omega
      clear ho hc ht h h0 hr
      generalize expR (x % 2147483648) = E at *
      generalize tOf (x % 2147483648) + 925 + ctzM (mOf (x % 2147483648)) = J0 at *
      generalize oddM (mOf (x % 2147483648)) = o at *
      generalize x % 2147483648 = r at *
      have HB := Lib.hid (show _ ∧ _ ∧ _ ∧ _ from ⟨hbd, hE, ho2, hJ0⟩)
      clear hbd hE ho2 hJ0
      by_cases hx : 2147483648 < x
      all_goals
        first | rw [decide_eq_true hx] at hn | rw [decide_eq_false hx] at hn
        first | rw [if_pos hx] at HF | rw [if_neg hx] at HF
        clear hx
        go_enter Try.func54, Try.ntmps54
        go_wp2_with (first
          | (go_at_call 53; refine (l1Finite_any _ _).mono ?_; rintro e w' ⟨n, rfl, rfl⟩)
          | (go_at_call 59; refine (l1Abs_any _ _).mono ?_; rintro e w' ⟨rfl, rfl⟩))
        clear hwd hn ha
        go_loopw [4, 5] (fun y e wr => ∃ J n : Nat, J ≤ J0 ∧ y = .float .f64 (dw false o J) ∧ e = .int .i64 ((J0 : Int) - J) ∧ wr = w.drewN n) (fun y e _ => J0 - (intOf e).toNat)
        case atStart => exact ⟨J0, _, Nat.le_refl _, rfl, by simp, rfl⟩
        case round =>
          obtain ⟨J, n1, hJ, rfl, rfl, rfl⟩ := hrel
          have hJ0 : J0 ≤ 1201 := HB.out.2.2.2
          by_cases hge : 1074 < J ∧ 16777216 ≤ o * 2 ^ (J - 1074)
          · have hcc := ge24_yes hol (show J ≤ 1974 by omega) hge
            obtain ⟨J', rfl⟩ : ∃ J', J = J' + 1 := ⟨J - 1, by omega⟩
            have hd : ∀ w, fval .quo .f64 (dw false o (J' + 1)) 4611686018427387904 w = dw false o J' := fval_some (dw_half (by omega) (by omega))
            clear hge
            rcases hcc with hcc | hcc
            all_goals
              go_wp2_with fail
              go_roundw
              case rel => exact ⟨J', _, by omega, rfl, vint (by omega), rfl⟩
              case measure => simp [intOf]; omega
          · obtain ⟨hcc, hJ2⟩ := ge24_no hol (show J ≤ 1974 by omega) hge
            go_wp2_with fail
            have HJ := Lib.hid (show J ≤ 1201 ∧ (J ≤ 1074 ∨ o * 2 ^ (J - 1074) < 16777216) from ⟨by omega, hJ2⟩)
            clear hJ2 hge hcc hJ
            go_loopw [4, 5] (fun y e wr => ∃ L n : Nat, y = .float .f64 (dw false o L) ∧ e = .int .i64 ((J0 : Int) - L) ∧ wr = w.drewN n ∧ (L ≤ 1201 ∧ (L ≤ 1074 ∨ o * 2 ^ (L - 1074) < 16777216))) (fun y e _ => (1074 + intOf e).toNat)
            case atStart => exact ⟨J, _, rfl, rfl, rfl, HJ.out⟩
            case round =>
              obtain ⟨L, n2, rfl, rfl, rfl, hL⟩ := hrel
              by_cases hlt : L < 1074
              · obtain ⟨d, hd⟩ : ∃ d, L + d = 1074 := ⟨1074 - L, by omega⟩
                have hi : ∀ w, (convert 63 3 (.float .f64 (dw false o L))).run Try.prog w = .ok (.int .i64 (o / 2 ^ d : Nat)) w := fun w =>
                  run_convert_float_int w 63 3 .f64 .i64 _ _ (by rw [Try.underlying63]; rfl) Try.underlying3 (dw_trunc (by omega) hd)
                have hdi : floatOfInt .f64 ((o / 2 ^ d : Nat) : Int) = dw false (o / 2 ^ d) 1074 := dw_of_int
                have hne : (FloatKind.f64.format.order (dw false o L) (dw false (o / 2 ^ d) 1074) != some .eq) = true := by rw [bne, odd_frac HB.out.2.2.1 (show o < 9007199254740992 by omega) hd (by omega)]; rfl
                have hdb : ∀ w, fval .mul .f64 (dw false o L) 4611686018427387904 w = dw false o (L + 1) := fval_some (dw_dbl (by omega) (by omega))
                generalize o / 2 ^ d = q at *
                clear hL
                go_wp2_with fail
                go_roundw
                case rel => exact ⟨L + 1, _, rfl, vint (by omega), rfl, by omega, .inl (by omega)⟩
                case measure => simp [intOf]; omega
              · obtain ⟨a, rfl⟩ : ∃ a, L = 1074 + a := ⟨L - 1074, by omega⟩
                have hq : o * 2 ^ a < 16777216 := by
                  rcases hL.2 with h | h
                  · obtain rfl : a = 0 := by omega
                    simpa using hol
                  · rwa [show 1074 + a - 1074 = a by omega] at h
                have hdw : dw false o (1074 + a) = dw false (o * 2 ^ a) 1074 := (dw_shift _ _ _ _).symm
                have ha : a ≤ 127 := by have := hL.1; omega
                rw [hdw]
                clear hL hlt hdw HJ
                obtain ⟨M, hM⟩ : ∃ M, M = o * 2 ^ a := ⟨_, rfl⟩
                rw [← hM] at hq ⊢
                have HM := Lib.hid hM
                have hi : ∀ w, (convert 63 3 (.float .f64 (dw false M 1074))).run Try.prog w = .ok (.int .i64 M) w := fun w =>
                  run_convert_float_int w 63 3 .f64 .i64 _ _ (by rw [Try.underlying63]; rfl) Try.underlying3 (dw_to_int (by omega))
                have hdi : floatOfInt .f64 (M : Int) = dw false M 1074 := dw_of_int
                have hne : (FloatKind.f64.format.order (dw false M 1074) (dw false M 1074) != some .eq) = false := by rw [bne, dw_self (by omega) (by omega)]; rfl
                clear hM
                go_wp2_with fail
                clear hi hdi hne
                go_loopw [6, 5] (fun m e wr => ∃ b n : Nat, b ≤ a ∧ m = .int .i64 (o * 2 ^ b : Nat) ∧ e = .int .i64 (E - b) ∧ wr = w.drewN n) (fun _ e _ => (E - intOf e).toNat)
                case atStart => exact ⟨a, _, Nat.le_refl _, by rw [← HM.out], vint (by have := HB.out.2.1; omega), rfl⟩
                case round =>
                  obtain ⟨b, n3, hb, rfl, rfl, rfl⟩ := hrel
                  have hE : -149 ≤ E ∧ E ≤ 127 := HB.out.1
                  cases b with
                  | succ b =>
                    obtain ⟨V, hV⟩ : ∃ V, V = o * 2 ^ b := ⟨_, rfl⟩
                    have h2 : ((o * 2 ^ (b + 1) : Nat) : Int) = 2 * (V : Int) := by rw [Nat.pow_succ, ← Nat.mul_assoc, ← hV]; omega
                    rw [h2]
                    have HV := Lib.hid hV
                    have hVl : V < 16777216 := by
                      have : 2 ^ b ≤ 2 ^ a := Nat.pow_le_pow_right (by decide) (by omega)
                      have := Nat.mul_le_mul_left o this
                      have := HM.out
                      omega
                    clear hV h2
                    go_wp2_with fail
                    go_roundw
                    case rel => exact ⟨b, _, by omega, by rw [HV.out], vint (by omega), rfl⟩
                    case measure => simp [intOf]; omega
                  | zero =>
                    have h2 : ((o * 2 ^ 0 : Nat) : Int) = (o : Int) := by simp
                    rw [h2]
                    have hodd := HB.out.2.2.1
                    clear h2
                    go_wp2_with fail
                    refine (l1Number_any (o : Int) (by omega) (by omega) _).mono ?_
                    rintro e w1 ⟨rfl, hb1⟩
                    have HB1 := Lib.hid (below_drewN_trans hb1)
                    clear hb1
                    obtain ⟨s1, hs1⟩ : ∃ s1, s1 = Lib.itoa (o : Int) := ⟨_, rfl⟩
                    have hl1 : s1.length ≤ 21 := by rw [hs1]; exact Lib.itoa_length_le _ (by omega) (by omega)
                    rw [← hs1] at HF ⊢
                    clear hs1
                    go_wp2_with fail
                    refine (l1Number_any E (by omega) (by omega) _).mono ?_
                    rintro e w2 ⟨rfl, hb2⟩
                    have HB2 := Lib.hid (HB1.out.trans (hb2.mono HB1.out.size))
                    clear hb2
                    obtain ⟨s2, hs2⟩ : ∃ s2, s2 = Lib.itoa E := ⟨_, rfl⟩
                    have hl2 : s2.length ≤ 21 := by rw [hs2]; exact Lib.itoa_length_le _ (by omega) (by omega)
                    rw [← hs2] at HF ⊢
                    clear hs2
                    go_wp2_with fail
                    go_ret
                    refine ⟨?_, HB2.out⟩
                    rw [HF.out, ba_three]; rfl
end Go.Proofs.Ytmfgffgfggkgcaa
