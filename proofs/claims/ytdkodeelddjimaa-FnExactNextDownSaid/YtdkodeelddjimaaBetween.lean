/-
  StepsBetween of the program and of the reference: the difference of the steps of two finite words and true, or 0 and false; and the walk of the law on it. The words fit their kind.
-/
import Derived.Test.YtdkodeelddjimaaStepsOfL
namespace Go.Proofs.Ytdkodeelddjimaa
open Go.RowKit

theorem stepsA_bd {x : Nat} (h : x < 4294967296) : -2139095039 ≤ stepsA x ∧ stepsA x ≤ 2139095039 := by
  unfold stepsA finB stepsOf
  split
  · rename_i hf; simp at hf; split <;> omega
  · omega
def betweenA (a b : Nat) : Int := if finB a && finB b then stepsA b - stepsA a else 0
def BetweenAns (a b : Nat) (w : World) (e : Ending) (w' : World) : Prop := ∃ n, e = .returned (.tuple #[.int .i64 (betweenA a b), .bool (finB a && finB b)]) ∧ w' = w.drewN n
set_option maxHeartbeats 400000 in
theorem between_spec (a b : Nat) (h1 : a < 4294967296) (h2 : b < 4294967296) (w : World) : Calls Try.prog 30 #[.float .f32 a, .float .f32 b] w (BetweenAns a b w) := by
  obtain ⟨a1, a2⟩ := stepsA_bd h1
  obtain ⟨b1, b2⟩ := stepsA_bd h2
  cases ha : finB a <;> cases hb : finB b
  all_goals
    go_enter Try.func30, Try.ntmps30
    go_wp2_with fail
    refine (stepsOf_spec a h1 _).mono ?_
    rintro e w' ⟨n, rfl, rfl⟩
    go_wp2_with fail
    refine (stepsOf_spec b h2 _).mono ?_
    rintro e w' ⟨n2, rfl, rfl⟩
    go_wp2_with fail
    go_ret2
    refine ⟨_, ?_, rfl⟩
    unfold betweenA
    rw [ha, hb]
    rfl
set_option maxHeartbeats 400000 in
theorem between_impl (a b : Nat) (h1 : a < 4294967296) (h2 : b < 4294967296) (w : World) : Calls Try.prog 31 #[.float .f32 a, .float .f32 b] w (BetweenAns a b w) := by
  obtain ⟨a1, a2⟩ := stepsA_bd h1
  obtain ⟨b1, b2⟩ := stepsA_bd h2
  cases ha : finB a <;> cases hb : finB b
  all_goals
    go_enter Try.func31, Try.ntmps31
    go_wp2_with fail
    refine (stepsOf_impl a h1 _).mono ?_
    rintro e w' ⟨n, rfl, rfl⟩
    go_wp2_with fail
    refine (stepsOf_impl b h2 _).mono ?_
    rintro e w' ⟨n2, rfl, rfl⟩
    go_wp2_with fail
    go_ret2
    refine ⟨_, ?_, rfl⟩
    unfold betweenA
    rw [ha, hb]
    rfl

theorem fnExactStepsBetween_walk (a0 : Nat) (w0 : (Lit.float .f32 a0).wf = true) (a1 : Nat) (w1 : (Lit.float .f32 a1).wf = true) (w : World) :
    Calls Try.prog 11 #[.float .f32 a0, .float .f32 a1] w fun e w' => e = .returned (.bool true) ∧ Below w.heap.size w w' := by
  have h0 := lt_of_wf w0
  have h1 := lt_of_wf w1
  go_enter Try.func11, Try.ntmps11
  go_wp2_with (first
    | (go_at_call 30; refine (between_spec _ _ h0 h1 _).mono ?_; rintro e w' ⟨n, rfl, rfl⟩)
    | (go_at_call 31; refine (between_impl _ _ h0 h1 _).mono ?_; rintro e w' ⟨n, rfl, rfl⟩))
  go_ret
  exact ⟨rfl, by refine below_drewN ?_ _; exact Below.refl _ _⟩
end Go.Proofs.Ytdkodeelddjimaa
