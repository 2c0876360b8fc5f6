/-
  StepsOf of the reference: the steps of a finite word and true, or 0 and false. The word fits its kind.
-/
import Derived.Test.YtpjplcbcbabbnaaStepsW
namespace Go.Proofs.Ytpjplcbcbabbnaa
open Go.RowKit

def stepsA (x : Nat) : Int := if finB x then stepsOf x else 0
def StepsAns (x : Nat) (w : World) (e : Ending) (w' : World) : Prop := ∃ n, e = .returned (.tuple #[.int .i64 (stepsA x), .bool (finB x)]) ∧ w' = w.drewN n

theorem l1Finite_any (x : Nat) (w : World) : Calls Try.prog 30 #[.float .f32 x] w fun e w' => ∃ n, e = .returned (.bool (finB x)) ∧ w' = w.drewN n := by
  have H := Lib.hid (finS_finB x)
  go_enter Try.func30, Try.ntmps30
  go_wp2
  go_ret
  exact ⟨_, by rw [← H.out]; rfl, rfl⟩
theorem stepsOf_lo {x : Nat} (h : x < 4294967296) (hn : ¬ 2147483648 < x) : stepsOf x = ((x % 2147483648 : Nat) : Int) := by unfold stepsOf; split <;> omega
theorem stepsOf_hi {x : Nat} (h : x < 4294967296) (hn : 2147483648 < x) : stepsOf x = -((x % 2147483648 : Nat) : Int) := by unfold stepsOf; split <;> omega

set_option maxHeartbeats 400000 in
theorem stepsOf_spec (x : Nat) (h : x < 4294967296) (w : World) : Calls Try.prog 25 #[.float .f32 x] w (StepsAns x w) := by
  cases hf : finB x with
  | false =>
    have E := Lib.hid (show stepsA x = 0 by unfold stepsA; rw [hf]; rfl)
    go_enter Try.func25, Try.ntmps25
    go_wp2_with (go_at_call 30; refine (l1Finite_any _ _).mono ?_; rintro e w' ⟨n, rfl, rfl⟩)
    go_ret2
    exact ⟨_, by rw [E.out, hf]; rfl, rfl⟩
  | true =>
    have hr : x % 2147483648 < 2139095040 := by unfold finB at hf; simpa using hf
    have ha := absS_word h hf
    have hneg := neg_test h hf
    by_cases hx : 2147483648 < x
    · have E := Lib.hid (show stepsA x = -((x % 2147483648 : Nat) : Int) by unfold stepsA; rw [hf]; exact stepsOf_hi h hx)
      rw [decide_eq_true hx] at hneg
      clear hx h
      generalize x % 2147483648 = r at *
      go_enter Try.func25, Try.ntmps25
      go_wp2_with (first
        | (go_at_call 30; refine (l1Finite_any _ _).mono ?_; rintro e w' ⟨n, rfl, rfl⟩)
        | (go_at_call 32; refine (l1Abs_any _ _).mono ?_; rintro e w' ⟨rfl, rfl⟩)
        | (go_at_call 31; refine (l1Steps_any _ hr _).mono ?_; rintro e w' ⟨n2, rfl, rfl⟩))
      go_ret2
      exact ⟨_, by rw [E.out, hf]; simp, rfl⟩
    · have E := Lib.hid (show stepsA x = ((x % 2147483648 : Nat) : Int) by unfold stepsA; rw [hf]; exact stepsOf_lo h hx)
      rw [decide_eq_false hx] at hneg
      clear hx h
      generalize x % 2147483648 = r at *
      go_enter Try.func25, Try.ntmps25
      go_wp2_with (first
        | (go_at_call 30; refine (l1Finite_any _ _).mono ?_; rintro e w' ⟨n, rfl, rfl⟩)
        | (go_at_call 32; refine (l1Abs_any _ _).mono ?_; rintro e w' ⟨rfl, rfl⟩)
        | (go_at_call 31; refine (l1Steps_any _ hr _).mono ?_; rintro e w' ⟨n2, rfl, rfl⟩))
      go_ret2
      exact ⟨_, by rw [E.out, hf]; rfl, rfl⟩

theorem stepsA_bd {x : Nat} (h : x < 4294967296) : -2139095039 ≤ stepsA x ∧ stepsA x ≤ 2139095039 := by
  unfold stepsA finB stepsOf
  split
  · rename_i hf; simp at hf; split <;> omega
  · omega
end Go.Proofs.Ytpjplcbcbabbnaa
