/-
  The walk of FnSmall: it returns true of every draw.
-/
import Derived.Test.YtdkodeelddjimaaSmallP
import Derived.Test.YtdkodeelddjimaaAt
import Derived.Deep.DeepCutAuto
namespace Go.Proofs.Ytdkodeelddjimaa
open Go.RowKit

theorem finS_form (x : Nat) : (FloatKind.f32.format.order (fop .sub .f32 x x) 0 == some .eq) = finS x := rfl

set_option maxHeartbeats 2000000 in
set_option maxRecDepth 100000 in
theorem fnSmall_walk {w : World} (a0 : Option Addr) (len0 cap0 : Nat) (z0 : List Int) (w0 : IsRow w a0 len0 cap0 z0) :
    Calls Try.prog 14 #[.slice a0 len0 cap0] w fun e w' => e = .returned (.bool true) ∧ Below w.heap.size w w' := by
  by_cases hl : len0 ≤ 1048576
  · obtain ⟨xs, hx⟩ := code_of_row w0 hl
    have HX := Lib.hid hx
    clear w0 hx
    go_enter Try.func14, Try.ntmps14
    go_wp2_with fail
    refine (makeFloat_any _ _ _ _ _ HX.out).mono ?_
    rintro e w1 ⟨x, rfl, hx, hb1⟩
    have HB := Lib.hid hb1
    have HX1 := Lib.hid (show CodeAt w1 a0 len0 xs from ⟨HX.out.1.below hb1, HX.out.2⟩)
    clear hb1
    go_wp2_with fail
    refine (flush_impl _ hx _).mono ?_
    rintro e w2 ⟨rfl, rfl⟩
    have hf := flush_lt x hx
    have ff := Lib.hid (flush_flush x)
    have fs := Lib.hid (flush_not_sub x)
    have fe := Lib.hid (show isSubB x = false → flushB x = x from fun h => by unfold flushB; rw [h]; rfl)
    have fn := Lib.hid (isN_flush x)
    generalize flushB x = f at *
    have HH : (losesHalf x = false) ∨ (FloatKind.f32.format.order (fop .sub .f32 x x) 0 == some .eq) = false ∨
        (FloatKind.f32.format.order x 16777216 = some .lt ∧ FloatKind.f32.format.order (Op.negFloat .f32 x) 16777216 = some .lt) := by
      cases h1 : losesHalf x with
      | false => exact .inl rfl
      | true => cases h2 : finS x with
        | false => exact .inr (.inl h2)
        | true => exact .inr (.inr (small_half hx h2 h1))
    have CC : (isSubB x = false ∧ f = x ∧ FloatKind.f32.format.order f f = none) ∨ (isSubB x = true ∧ FloatKind.f32.format.order f f = some .eq) ∨ (isSubB x = false ∧ f = x ∧ FloatKind.f32.format.order f f = some .eq) := by
      cases h1 : isN .f32 x with
      | true =>
        have h2 := nan_not_sub h1
        exact .inl ⟨h2, fe.out h2, order_nan_left (by rw [fn.out]; exact h1)⟩
      | false =>
        have h3 := order_self (by rw [fn.out]; exact h1 : isN .f32 f = false)
        cases h2 : isSubB x with
        | true => exact .inr (.inl ⟨rfl, h3⟩)
        | false => exact .inr (.inr ⟨rfl, fe.out h2, h3⟩)
    have CD := Lib.hid CC
    have HD := Lib.hid HH
    clear CC HH
    go_upto_region 5 with fail
    go_cut [44] (fun s44 wx => s44 = .bool false ∧ wx = w1)
    case first =>
      rcases CD.out with ⟨hs, rfl, hff⟩ | ⟨hs, hff⟩ | ⟨hs, rfl, hff⟩
      all_goals
        go_wp2_with (first
          | (go_at_call 25; refine (flush_impl _ hf _).mono ?_; rintro e w2 ⟨rfl, rfl⟩; rw [ff.out])
          | (go_at_call 18; (with_reducible refine (isSub_impl f hf _).mono ?_); rintro e w2 ⟨rfl, rfl⟩; rw [fs.out])
          | (go_at_call 18; (with_reducible refine (isSub_impl x hx _).mono ?_); rintro e w2 ⟨rfl, rfl⟩; rw [hs]))
        go_meet
        exact ⟨rfl, rfl⟩
    case rest =>
      obtain ⟨rfl, hwc⟩ := hcut
      subst hwc
      go_upto_region 7 with fail
      go_cut [5] (fun s5 wx => ∃ b : Bool, s5 = .bool b ∧ (b = true → ¬ (FloatKind.f32.format.order x 16777216 = some .lt ∧ FloatKind.f32.format.order (Op.negFloat .f32 x) 16777216 = some .lt)) ∧ wx = wc)
      case first =>
        generalize ho1 : FloatKind.f32.format.order x 16777216 = o1
        have H1 := Lib.hid ho1
        generalize ho2 : FloatKind.f32.format.order (Op.negFloat .f32 x) 16777216 = o2
        have H2 := Lib.hid ho2
        rcases o1 with _ | (_ | _ | _) <;> rcases o2 with _ | (_ | _ | _)
        all_goals
          go_wp2_with fail
          go_meet
          refine ⟨_, rfl, ?_, rfl⟩
          intro hbt hpq
          have p := hpq.1
          have q := hpq.2
          rw [H1.out] at p
          rw [H2.out] at q
          first | (cases p; done) | (cases q; done) | (cases hbt; done)
      case rest =>
        obtain ⟨b, rfl, hb, hw⟩ := hcut
        subst hw
        have HB2 := Lib.hid hb
        clear hb
        go_upto_region 8 with fail
        go_cut [62] (fun s62 wx => s62 = .bool false ∧ Below w.heap.size w wx ∧ CodeAt wx a0 len0 xs)
        case first =>
          cases b with
          | false =>
            go_wp2_with fail
            go_meet
            exact ⟨rfl, HB.out, HX1.out⟩
          | true =>
            rcases HD.out with hL | hL | hL
            · go_wp2_with (go_at_call 16; refine (losesHalf_impl _ _).mono ?_; rintro e w2 ⟨n, rfl, rfl⟩)
              all_goals
                go_meet
                first | exact ⟨rfl, HB.out, HX1.out⟩ | exact ⟨rfl, below_drewN' HB.out, HX1.out.1.drewN, HX1.out.2⟩
            · go_wp2_with fail
              go_meet
              first | exact ⟨rfl, HB.out, HX1.out⟩ | exact ⟨rfl, below_drewN' HB.out, HX1.out.1.drewN, HX1.out.2⟩
            · exact absurd hL (HB2.out rfl)
        case rest =>
          obtain ⟨rfl, hb3, hx3⟩ := hcut
          have HB3 := Lib.hid hb3
          have HX3 := Lib.hid hx3
          clear hb3 hx3
          go_wp2_with fail
          refine (at_any _ _ _ _ 1 _ HX3.out hl (by decide)).mono ?_
          rintro e w4 ⟨i, rfl, hi, rfl⟩
          go_wp2_with fail
          refine (at_any _ _ _ _ 2 _ HX3.out hl (by decide)).mono ?_
          rintro e w4 ⟨j, rfl, hj, rfl⟩
          go_wp2_with fail
          refine (halve_impl _ _ _ (by omega) (by omega)).mono ?_
          rintro e w5 ⟨r1, n1, rfl, hr1, rfl⟩
          go_wp2_with fail
          refine (halve_impl _ _ _ (by omega) (by omega)).mono ?_
          rintro e w5 ⟨r2, n2, rfl, hr2, rfl⟩
          go_wp2_with fail
          refine (halve_impl _ _ _ (by omega) (by omega)).mono ?_
          rintro e w5 ⟨r3, n3, rfl, hr3, rfl⟩
          have e1 : times ((i : Int) % 160) = i % 160 := by unfold times; omega
          have e2 : times ((j : Int) % 160) = j % 160 := by unfold times; omega
          have e3 : times ((i : Int) % 160 + (j : Int) % 160) = i % 160 + j % 160 := by unfold times; omega
          rw [e1] at hr1
          rw [e2] at hr2
          rw [e3, ← halve_halve] at hr3
          have hr2' := hr2.trans (halve_FE hr1 (j % 160))
          clear e1 e2 e3 hr1 hr2
          generalize halve (halve x (i % 160)) (j % 160) = S at *
          have o1 := order_FE hr2' hr3
          have o2 := order_FE hr2' hr2'
          have o3 := order_FE hr3 hr3
          have hS : FloatKind.f32.format.order S S = none ∨ FloatKind.f32.format.order S S = some .eq := by
            cases h : isN .f32 S with
            | true => exact .inl (order_nan_left h)
            | false => exact .inr (order_self h)
          clear hr2' hr3
          rcases hS with hS | hS
          all_goals
            rw [hS] at o1 o2 o3
            clear hS
            go_wp2_with fail
            go_ret
            exact ⟨rfl, by refine below_drewN' ?_; exact HB3.out⟩
  · have hg : (1048576 : Int) < (len0 : Int) := by omega
    go_enter Try.func14, Try.ntmps14
    go_wp2_with fail
    go_ret
    exact ⟨rfl, Below.refl _ _⟩
end Go.Proofs.Ytdkodeelddjimaa
