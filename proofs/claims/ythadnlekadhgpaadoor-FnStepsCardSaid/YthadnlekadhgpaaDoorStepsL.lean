/-
  The walk of FnSteps: it returns true of every draw. The library's tables and errors lie as they are laid.
-/
import Derived.Test.YthadnlekadhgpaaDoorStpQ
import Derived.Test.YthadnlekadhgpaaDoorPrsI
import Derived.Test.YthadnlekadhgpaaDoorFresh
namespace Go.Proofs.YthadnlekadhgpaaDoor
open Go.RowKit
theorem fmt_nil {x : Nat} (hf : finB x = false) : fmtS x = [] := by unfold fmtS; rw [hf]; rfl
theorem no_nil : NoText [] := fun x hx hf h => by
  have h2 := (fmt_sign hf).2
  rw [h] at h2
  obtain ⟨c, t, h3, -⟩ := fmtR_head (x % 2147483648)
  rw [h3] at h2
  cases h2
theorem ne_eq {x y : Nat} (h : (FloatKind.f32.format.order x y == some .eq) = true) : (FloatKind.f32.format.order x y != some .eq) = false := by rw [bne, h]; rfl
/-- The next number up, of a finite one. -/
structure UpOf (x : Nat) : Prop where
  down : nextOk (nextA x 1) (-1) = true
  fin : (finB x && finB (nextA x 1)) = true
  one : betweenA x (nextA x 1) = 1
  back : (FloatKind.f32.format.order (nextA (nextA x 1) (-1)) x == some .eq) = true
  more : (FloatKind.f32.format.order (nextA x 1) x == some .gt) = true
theorem nextA_lt (x : Nat) (b : Int) : nextA x b < 4294967296 := by
  unfold nextA
  split
  · cases h : fromOk (stepsA x + b) with
    | true => exact (word_steps h).1
    | false => unfold fromA; rw [h, if_neg (by decide)]; decide
  · decide
theorem next_ok {x : Nat} (h : x < 4294967296) (hf : finB x = true) : nextOk x 1 = decide (stepsA x < 2139095039) := by
  have hb := stepsA_bd h
  unfold nextOk
  rw [hf, Bool.true_and, Bool.eq_iff_iff, fromOk_iff, decide_eq_true_eq]
  omega
theorem up_of {x : Nat} (h : x < 4294967296) (hf : finB x = true) (hm : stepsA x < 2139095039) : UpOf x := by
  have hb := stepsA_bd h
  have hok : fromOk (stepsA x + 1) = true := (fromOk_iff _).2 (by omega)
  have hu : nextA x 1 = fromA (stepsA x + 1) := by unfold nextA; rw [if_pos hf]
  obtain ⟨u1, u2, u3⟩ := word_steps hok
  rw [← hu] at u1 u2 u3
  have us : stepsA (nextA x 1) = stepsA x + 1 := by rw [stepsA_fin u2, u3]
  have hx : stepsA x = stepsOf x := stepsA_fin hf
  have hd : nextA (nextA x 1) (-1) = fromA (stepsOf x) := by
    generalize nextA x 1 = u at *
    unfold nextA
    rw [if_pos u2, us, show stepsA x + 1 + -1 = stepsA x by omega, hx]
  refine ⟨?_, ?_, ?_, ?_, ?_⟩
  · unfold nextOk
    rw [u2, us, Bool.true_and, fromOk_iff]
    omega
  · rw [hf, u2]; rfl
  · unfold betweenA
    rw [hf, u2, us, Bool.and_self, if_pos rfl]
    omega
  · rw [hd]; exact back_eq h hf
  · rw [steps_gt u1 h u2 hf, u3]
    exact decide_eq_true (by omega)
theorem CodeAt.below {w w' : World} {a : Option Addr} {n : Nat} {xs : List Value} (h : CodeAt w a n xs) (hb : Below w.heap.size w w') : CodeAt w' a n xs := ⟨h.1.below hb, h.2⟩
set_option maxHeartbeats 4000000 in
set_option maxRecDepth 100000 in
theorem fnSteps_walk {w : World} (a0 : Option Addr) (len0 cap0 : Nat) (z0 : List Int) (w0 : IsRow w a0 len0 cap0 z0) (hT : TabsAt w) (hE : ErrsAt w) :
    Calls Tryd.prog 5 #[.slice a0 len0 cap0] w fun e w' => e = .returned (.bool true) ∧ Below w.heap.size w w' := by
  by_cases hl : len0 ≤ 1048576
  · obtain ⟨xs, hx⟩ := code_of_row w0 hl
    have HX := Lib.hid (show _ ∧ LibAt w from ⟨hx, hT, hE⟩)
    clear w0 hx hT hE
    go_enter Tryd.func5, Tryd.ntmps5
    go_wp2_with fail
    refine (makeFloat_any _ _ _ _ _ HX.out.1).mono ?_
    rintro e w1 ⟨x, rfl, hxl, hb1⟩
    have H1 := Lib.hid (show _ ∧ _ ∧ _ from ⟨hb1, HX.out.1.below hb1, HX.out.2.keep hb1⟩)
    clear hb1
    go_wp2_with fail
    refine (fresh_any _ _ _ _ 3 _ H1.out.2.1 hl (by decide)).mono ?_
    rintro e w2 ⟨g2, n2, cap2, xs2, rfl, hg2, hcode2, hn2, hb2⟩
    have H2 := Lib.hid (show _ ∧ _ ∧ _ from ⟨H1.out.1.trans (hb2.mono H1.out.1.size), hcode2, H1.out.2.2.keep hb2⟩)
    clear hcode2 hb2 hg2 hn2 H1 HX
    go_wp2_with fail
    refine (makeFloat_any _ _ _ _ _ H2.out.2.1).mono ?_
    rintro e w3 ⟨y, rfl, hyl, hb3⟩
    have H3 := Lib.hid (show Below w.heap.size w w3 ∧ LibAt w3 from ⟨H2.out.1.trans (hb3.mono H2.out.1.size), H2.out.2.2.keep hb3⟩)
    have HXY := Lib.hid (show _ ∧ _ from ⟨hxl, hyl⟩)
    clear hb3 H2 hxl hyl
    go_wp2_with fail
    refine (stepsOf_impl x HXY.out.1 _).mono ?_
    rintro e w4 ⟨n4, rfl, rfl⟩
    go_wp2_with fail
    refine (stepsOf_impl y HXY.out.2 _).mono ?_
    rintro e w5 ⟨n5, rfl, rfl⟩
    have hsx : (FloatKind.f32.format.order (fop .sub .f32 x x) 0 == some .eq) = finB x := finS_finB x
    have hsy : (FloatKind.f32.format.order (fop .sub .f32 y y) 0 == some .eq) = finB y := finS_finB y
    cases hfx : finB x with
    | false =>
      rw [hfx] at hsx
      have HF := Lib.hid hfx
      clear hfx
      cases hfy : finB y with
      | false =>
        rw [hfy] at hsy
        clear hfy
        go_wp2_with fail
        refine (format_i x HXY.out.1 _ H3.out.2.drew.tabs).mono ?_
        rintro e w6 ⟨rfl, hb6⟩
        rw [fmt_nil HF.out]
        have H6 := Lib.hid (show Below w.heap.size w w6 ∧ LibAt w6 from ⟨H3.out.1.trans ((below_drewN_trans hb6).mono H3.out.1.size), H3.out.2.drew.keep hb6⟩)
        clear hb6
        go_wp2_with fail
        refine (parse_i_no [] (by decide) no_nil _ H6.out.2).mono ?_
        rintro e w7 ⟨rfl, hb7⟩
        have H7 := Lib.hid (H6.out.1.trans (hb7.mono H6.out.1.size))
        clear hb7
        go_wp2_with fail
        go_ret
        exact ⟨rfl, H7.out⟩
      | true =>
        rw [hfy] at hsy
        clear hfy
        go_wp2_with fail
        refine (format_i x HXY.out.1 _ H3.out.2.drew.tabs).mono ?_
        rintro e w6 ⟨rfl, hb6⟩
        rw [fmt_nil HF.out]
        have H6 := Lib.hid (show Below w.heap.size w w6 ∧ LibAt w6 from ⟨H3.out.1.trans ((below_drewN_trans hb6).mono H3.out.1.size), H3.out.2.drew.keep hb6⟩)
        clear hb6
        go_wp2_with fail
        refine (parse_i_no [] (by decide) no_nil _ H6.out.2).mono ?_
        rintro e w7 ⟨rfl, hb7⟩
        have H7 := Lib.hid (H6.out.1.trans (hb7.mono H6.out.1.size))
        clear hb7
        go_wp2_with fail
        go_ret
        exact ⟨rfl, H7.out⟩
    | true =>
      rw [hfx] at hsx
      have HF := Lib.hid hfx
      clear hfx
      cases hfy : finB y with
      | false =>
        rw [hfy] at hsy
        clear hfy
        go_wp2_with fail
        refine (format_i x HXY.out.1 _ H3.out.2.drew.tabs).mono ?_
        rintro e w6 ⟨rfl, hb6⟩
        have H6 := Lib.hid (show Below w.heap.size w w6 ∧ LibAt w6 from ⟨H3.out.1.trans ((below_drewN_trans hb6).mono H3.out.1.size), H3.out.2.drew.keep hb6⟩)
        clear hb6
        go_wp2_with fail
        refine (parse_i_yes x HXY.out.1 HF.out _ H6.out.2).mono ?_
        rintro e w7 ⟨rfl, hb7⟩
        have H7 := Lib.hid (H6.out.1.trans (hb7.mono H6.out.1.size))
        clear hb7
        go_wp2_with fail
        refine (from_impl (stepsA x) (by have := stepsA_bd HXY.out.1; omega) (by have := stepsA_bd HXY.out.1; omega) _).mono ?_
        rintro e w8 ⟨n8, rfl, rfl⟩
        go_wp2_with fail
        refine (nextUp_impl x HXY.out.1 _).mono ?_
        rintro e w9 ⟨n9, rfl, rfl⟩
        have hbd := stepsA_bd HXY.out.1
        have hok : fromOk (stepsA x) = true := (fromOk_iff _).2 hbd
        have hbk : (FloatKind.f32.format.order (fromA (stepsA x)) x != some .eq) = false := ne_eq (by rw [stepsA_fin HF.out]; exact back_eq HXY.out.1 HF.out)
        have hzx : (FloatKind.f32.format.order x x != some .eq) = false := ne_eq (by rw [steps_eq HXY.out.1 HXY.out.1 HF.out HF.out]; exact decide_eq_true rfl)
        have hmo := next_ok HXY.out.1 HF.out
        by_cases hm : stepsA x < 2139095039
        · have HU := Lib.hid (up_of HXY.out.1 HF.out hm)
          rw [decide_eq_true hm] at hmo
          have HUL := Lib.hid (nextA_lt x 1)
          generalize nextOk x 1 = mo at *
          go_wp2_with fail
          all_goals
            refine (nextDown_impl (nextA x 1) HUL.out _).mono ?_
            rintro e wA ⟨nA, rfl, rfl⟩
            go_wp2_with fail
            refine (between_impl x (nextA x 1) HXY.out.1 HUL.out _).mono ?_
            rintro e wB ⟨nB, rfl, rfl⟩
            obtain ⟨u1, u2, u3, u4, u5⟩ := HU.out
            rw [u2, u3]
            go_wp2_with fail
            go_ret
            exact ⟨rfl, below_drewN' H7.out⟩
        · rw [decide_eq_false hm] at hmo
          have HUL := Lib.hid (nextA_lt x 1)
          generalize nextOk x 1 = mo at *
          go_wp2_with fail
          all_goals
            refine (nextDown_impl (nextA x 1) HUL.out _).mono ?_
            rintro e wA ⟨nA, rfl, rfl⟩
            go_wp2_with fail
            refine (between_impl x (nextA x 1) HXY.out.1 HUL.out _).mono ?_
            rintro e wB ⟨nB, rfl, rfl⟩
            go_wp2_with fail
            go_ret
            exact ⟨rfl, below_drewN' H7.out⟩
      | true =>
        rw [hfy] at hsy
        have hlt : (FloatKind.f32.format.order x y == some .lt) = decide (stepsA x < stepsA y) := by rw [steps_lt HXY.out.1 HXY.out.2 HF.out hfy, stepsA_fin HF.out, stepsA_fin hfy]
        have heq : (FloatKind.f32.format.order x y == some .eq) = decide (stepsA x = stepsA y) := by rw [steps_eq HXY.out.1 HXY.out.2 HF.out hfy, stepsA_fin HF.out, stepsA_fin hfy]
        clear hfy
        have hcase : (∃ b1 b2 : Bool, (FloatKind.f32.format.order x y == some .lt) = b1 ∧ decide (stepsA x < stepsA y) = b1 ∧ (FloatKind.f32.format.order x y == some .eq) = b2 ∧ (stepsA x == stepsA y) = b2) :=
          ⟨_, _, hlt, rfl, heq, by rw [Bool.eq_iff_iff, beq_iff_eq, decide_eq_true_eq]⟩
        clear hlt heq
        obtain ⟨b1, b2, h1, h2, h3, h4⟩ := hcase
        go_wp2_with fail
        refine (format_i x HXY.out.1 _ H3.out.2.drew.tabs).mono ?_
        rintro e w6 ⟨rfl, hb6⟩
        have H6 := Lib.hid (show Below w.heap.size w w6 ∧ LibAt w6 from ⟨H3.out.1.trans ((below_drewN_trans hb6).mono H3.out.1.size), H3.out.2.drew.keep hb6⟩)
        clear hb6
        go_wp2_with fail
        refine (parse_i_yes x HXY.out.1 HF.out _ H6.out.2).mono ?_
        rintro e w7 ⟨rfl, hb7⟩
        have H7 := Lib.hid (H6.out.1.trans (hb7.mono H6.out.1.size))
        clear hb7
        go_wp2_with fail
        refine (from_impl (stepsA x) (by have := stepsA_bd HXY.out.1; omega) (by have := stepsA_bd HXY.out.1; omega) _).mono ?_
        rintro e w8 ⟨n8, rfl, rfl⟩
        go_wp2_with fail
        refine (nextUp_impl x HXY.out.1 _).mono ?_
        rintro e w9 ⟨n9, rfl, rfl⟩
        have hbd := stepsA_bd HXY.out.1
        have hok : fromOk (stepsA x) = true := (fromOk_iff _).2 hbd
        have hbk : (FloatKind.f32.format.order (fromA (stepsA x)) x != some .eq) = false := ne_eq (by rw [stepsA_fin HF.out]; exact back_eq HXY.out.1 HF.out)
        have hzx : (FloatKind.f32.format.order x x != some .eq) = false := ne_eq (by rw [steps_eq HXY.out.1 HXY.out.1 HF.out HF.out]; exact decide_eq_true rfl)
        have hmo := next_ok HXY.out.1 HF.out
        by_cases hm : stepsA x < 2139095039
        · have HU := Lib.hid (up_of HXY.out.1 HF.out hm)
          rw [decide_eq_true hm] at hmo
          have HUL := Lib.hid (nextA_lt x 1)
          generalize nextOk x 1 = mo at *
          go_wp2_with fail
          all_goals
            refine (nextDown_impl (nextA x 1) HUL.out _).mono ?_
            rintro e wA ⟨nA, rfl, rfl⟩
            go_wp2_with fail
            refine (between_impl x (nextA x 1) HXY.out.1 HUL.out _).mono ?_
            rintro e wB ⟨nB, rfl, rfl⟩
            obtain ⟨u1, u2, u3, u4, u5⟩ := HU.out
            rw [u2, u3]
            go_wp2_with fail
            go_ret
            exact ⟨rfl, below_drewN' H7.out⟩
        · rw [decide_eq_false hm] at hmo
          have HUL := Lib.hid (nextA_lt x 1)
          generalize nextOk x 1 = mo at *
          go_wp2_with fail
          all_goals
            refine (nextDown_impl (nextA x 1) HUL.out _).mono ?_
            rintro e wA ⟨nA, rfl, rfl⟩
            go_wp2_with fail
            refine (between_impl x (nextA x 1) HXY.out.1 HUL.out _).mono ?_
            rintro e wB ⟨nB, rfl, rfl⟩
            go_wp2_with fail
            go_ret
            exact ⟨rfl, below_drewN' H7.out⟩
  · have hg : (1048576 : Int) < (len0 : Int) := by omega
    go_enter Tryd.func5, Tryd.ntmps5
    go_wp2_with fail
    go_ret
    exact ⟨rfl, Below.refl _ _⟩
end Go.Proofs.YthadnlekadhgpaaDoor
