/-
  The walks of the laws on StepsOf and StepsBetween: each returns true of all words.
-/
import Derived.Test.YtdkodeelddjimaaStepsOf
import Derived.Test.YtdkodeelddjimaaFlushW
namespace Go.Proofs.Ytdkodeelddjimaa
open Go.RowKit
theorem fnExactStepsOf_walk (a0 : Nat) (w0 : (Lit.float .f32 a0).wf = true) (w : World) :
    Calls Try.prog 10 #[.float .f32 a0] w fun e w' => e = .returned (.bool true) ∧ Below w.heap.size w w' := by
  have h := lt_of_wf w0
  go_enter Try.func10, Try.ntmps10
  go_wp2_with (first
    | (go_at_call 28; refine (stepsOf_spec _ h _).mono ?_; rintro e w' ⟨n, rfl, rfl⟩)
    | (go_at_call 29; refine (stepsOf_impl _ h _).mono ?_; rintro e w' ⟨n, rfl, rfl⟩))
  go_ret
  exact ⟨rfl, by refine below_drewN ?_ _; exact Below.refl _ _⟩
end Go.Proofs.Ytdkodeelddjimaa
