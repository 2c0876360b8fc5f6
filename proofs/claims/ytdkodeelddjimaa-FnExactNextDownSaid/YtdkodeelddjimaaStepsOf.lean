/-
  StepsOf of the program and of the reference: the steps of a finite word and true, or 0 and false. The word fits its kind.
-/
import Derived.Test.YtdkodeelddjimaaStepsW
namespace Go.Proofs.Ytdkodeelddjimaa
open Go.RowKit

def stepsA (x : Nat) : Int := if finB x then stepsOf x else 0
def StepsAns (x : Nat) (w : World) (e : Ending) (w' : World) : Prop := ∃ n, e = .returned (.tuple #[.int .i64 (stepsA x), .bool (finB x)]) ∧ w' = w.drewN n

theorem l1Finite_any (x : Nat) (w : World) : Calls Try.prog 42 #[.float .f32 x] w fun e w' => ∃ n, e = .returned (.bool (finB x)) ∧ w' = w.drewN n := by
  have H := Lib.hid (finS_finB x)
  go_enter Try.func42, Try.ntmps42
  go_wp2
  go_ret
  exact ⟨_, by rw [← H.out]; rfl, rfl⟩
theorem isFinite_any (x : Nat) (h : x < 4294967296) (w : World) : Calls Try.prog 44 #[.float .f32 x] w fun e w' => e = .returned (.bool (finB x)) ∧ w = w' := by
  have hb := bits_low x h
  have H : finB x = decide (((x % 2147483648 : Nat) : Int) ≤ 2139095039) := by unfold finB; apply decide_eq_decide.2; omega
  have H' := Lib.hid H
  clear H
  generalize x % 2147483648 = r at *
  go_enter Try.func44, Try.ntmps44
  go_wp2
  go_ret
  exact ⟨by rw [H'.out]; rfl, rfl⟩
theorem stepsOf_lo {x : Nat} (h : x < 4294967296) (hn : ¬ 2147483648 < x) : stepsOf x = ((x % 2147483648 : Nat) : Int) := by unfold stepsOf; split <;> omega
theorem stepsOf_hi {x : Nat} (h : x < 4294967296) (hn : 2147483648 < x) : stepsOf x = -((x % 2147483648 : Nat) : Int) := by unfold stepsOf; split <;> omega

set_option maxHeartbeats 400000 in
theorem stepsOf_spec (x : Nat) (h : x < 4294967296) (w : World) : Calls Try.prog 28 #[.float .f32 x] w (StepsAns x w) := by
  cases hf : finB x with
  | false =>
    have E := Lib.hid (show stepsA x = 0 by unfold stepsA; rw [hf]; rfl)
    go_enter Try.func28, Try.ntmps28
    go_wp2_with (go_at_call 42; refine (l1Finite_any _ _).mono ?_; rintro e w' ⟨n, rfl, rfl⟩)
    go_ret2
    exact ⟨_, by rw [E.out, hf]; rfl, rfl⟩
  | true =>
    have hr : x % 2147483648 < 2139095040 := by unfold finB at hf; simpa using hf
    have ha := absS_word h hf
    have hneg := neg_test h hf
    by_cases hx : 2147483648 < x
    · have E := Lib.hid (show stepsA x = -((x % 2147483648 : Nat) : Int) by unfold stepsA; rw [hf]; exact stepsOf_hi h hx)
      rw [decide_eq_true hx] at hneg
      clear hx h
      generalize x % 2147483648 = r at *
      go_enter Try.func28, Try.ntmps28
      go_wp2_with (first
        | (go_at_call 42; refine (l1Finite_any _ _).mono ?_; rintro e w' ⟨n, rfl, rfl⟩)
        | (go_at_call 38; refine (l1Abs_any _ _).mono ?_; rintro e w' ⟨rfl, rfl⟩)
        | (go_at_call 43; refine (l1Steps_any _ hr _).mono ?_; rintro e w' ⟨n2, rfl, rfl⟩))
      go_ret2
      exact ⟨_, by rw [E.out, hf]; simp, rfl⟩
    · have E := Lib.hid (show stepsA x = ((x % 2147483648 : Nat) : Int) by unfold stepsA; rw [hf]; exact stepsOf_lo h hx)
      rw [decide_eq_false hx] at hneg
      clear hx h
      generalize x % 2147483648 = r at *
      go_enter Try.func28, Try.ntmps28
      go_wp2_with (first
        | (go_at_call 42; refine (l1Finite_any _ _).mono ?_; rintro e w' ⟨n, rfl, rfl⟩)
        | (go_at_call 38; refine (l1Abs_any _ _).mono ?_; rintro e w' ⟨rfl, rfl⟩)
        | (go_at_call 43; refine (l1Steps_any _ hr _).mono ?_; rintro e w' ⟨n2, rfl, rfl⟩))
      go_ret2
      exact ⟨_, by rw [E.out, hf]; rfl, rfl⟩

/-- The widened word of a finite one bears its sign. -/
theorem wide_word {x : Nat} (h : x < 4294967296) (hf : finB x = true) : ∃ b, floatToFloatBits .f32 x .f64 = some b ∧ b < 18446744073709551616 ∧ (9223372036854775808 ≤ b ↔ 2147483648 ≤ x) := by
  have hr : Ieee.single.rung x = x % 2147483648 := by unfold Ieee.Format.rung; rw [s_sw]
  have e2 : Ieee.single.sgn x = (x / 2147483648 % 2 == 1) := by unfold Ieee.Format.sgn; rw [s_sw]
  have hx : Ieee.single.fin x := by unfold Ieee.Format.fin; rw [hr, s_inf]; unfold finB at hf; simpa using hf
  refine ⟨_, widen_fin hx, ?_⟩
  have hp := Ieee.double.put_rung_lt (Ieee.single.units (Ieee.single.rung x) * 2 ^ 925)
  rw [d_sw] at hp
  unfold Ieee.Format.put Ieee.Format.word
  rw [d_sw, e2]
  generalize min (Ieee.double.rnd (Ieee.single.units (Ieee.single.rung x) * 2 ^ 925)) Ieee.double.infRung = q at *
  by_cases hs : x < 2147483648
  · have : x / 2147483648 = 0 := by omega
    rw [this]; simp; omega
  · have : x / 2147483648 = 1 := by omega
    rw [this]; simp; omega
set_option maxHeartbeats 400000 in
theorem signbit_any (b : Nat) (hb : b < 18446744073709551616) (w : World) : Calls Try.prog 45 #[.float .f64 b] w fun e w' => e = .returned (.bool (decide (9223372036854775808 ≤ b))) ∧ w = w' := by
  by_cases hs : 9223372036854775808 ≤ b
  · have hw : IntKind.i64.wrap (b : Int) = (b : Int) - 18446744073709551616 := by
      simp only [IntKind.wrap, IntKind.bits, IntKind.signed]; simp; omega
    have ht : decide ((b : Int) - 18446744073709551616 < 0) = true := by simp; omega
    have E := Lib.hid (decide_eq_true hs)
    rw [E.out]
    go_enter Try.func45, Try.ntmps45
    go_wp2
    go_ret
    exact ⟨by simp_all, rfl⟩
  · have E := Lib.hid (decide_eq_false hs)
    rw [E.out]
    go_enter Try.func45, Try.ntmps45
    go_wp2
    go_ret
    exact ⟨by simp, rfl⟩

set_option maxHeartbeats 400000 in
theorem stepsOf_impl (x : Nat) (h : x < 4294967296) (w : World) : Calls Try.prog 29 #[.float .f32 x] w (StepsAns x w) := by
  cases hf : finB x with
  | false =>
    have E := Lib.hid (show stepsA x = 0 by unfold stepsA; rw [hf]; rfl)
    go_enter Try.func29, Try.ntmps29
    go_wp2_with (go_at_call 44; refine (isFinite_any _ h _).mono ?_; rintro e w' ⟨rfl, rfl⟩)
    go_ret2
    exact ⟨0, by rw [E.out, hf]; rfl, rfl⟩
  | true =>
    have hb := bits_low x h
    obtain ⟨b, hw, hb64, hbs⟩ := wide_word h hf
    have hr : x % 2147483648 < 2139095040 := by unfold finB at hf; simpa using hf
    have hc : ∀ w, cval .f32 x .f64 w = b := cval_some hw
    clear hw
    by_cases hx : 2147483648 ≤ x
    · have E := Lib.hid (show stepsA x = -((x % 2147483648 : Nat) : Int) by
        unfold stepsA; rw [hf]; show stepsOf x = _; unfold stepsOf; split <;> omega)
      have hs : decide (9223372036854775808 ≤ b) = true := decide_eq_true (hbs.2 hx)
      have S := Lib.hid hs
      clear hs hbs hx
      generalize x % 2147483648 = r at *
      go_enter Try.func29, Try.ntmps29
      go_wp2_with (first
        | (go_at_call 44; refine (isFinite_any _ h _).mono ?_; rintro e w' ⟨rfl, rfl⟩)
        | (go_at_call 45; refine (signbit_any _ hb64 _).mono ?_; rintro e w' ⟨rfl, rfl⟩; rw [S.out]))
      go_ret2
      exact ⟨_, by rw [E.out, hf]; simp, rfl⟩
    · have E := Lib.hid (show stepsA x = ((x % 2147483648 : Nat) : Int) by
        unfold stepsA; rw [hf]; show stepsOf x = _; unfold stepsOf; split <;> omega)
      have hs : decide (9223372036854775808 ≤ b) = false := decide_eq_false (fun g => hx (hbs.1 g))
      have S := Lib.hid hs
      clear hs hbs hx
      generalize x % 2147483648 = r at *
      go_enter Try.func29, Try.ntmps29
      go_wp2_with (first
        | (go_at_call 44; refine (isFinite_any _ h _).mono ?_; rintro e w' ⟨rfl, rfl⟩)
        | (go_at_call 45; refine (signbit_any _ hb64 _).mono ?_; rintro e w' ⟨rfl, rfl⟩; rw [S.out]))
      go_ret2
      exact ⟨_, by rw [E.out, hf]; rfl, rfl⟩
end Go.Proofs.Ytdkodeelddjimaa
