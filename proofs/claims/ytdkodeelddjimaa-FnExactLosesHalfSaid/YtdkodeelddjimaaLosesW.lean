/-
  The walk of the law on LosesHalf: it returns true of every word. No condition.
-/
import Derived.Test.YtdkodeelddjimaaHalf
namespace Go.Proofs.Ytdkodeelddjimaa
open Go.RowKit
theorem fnExactLosesHalf_walk (a0 : Nat) (_w0 : (Lit.float .f32 a0).wf = true) (w : World) :
    Calls Try.prog 4 #[.float .f32 a0] w fun e w' => e = .returned (.bool true) ∧ Below w.heap.size w w' := by
  go_enter Try.func4, Try.ntmps4
  go_wp2_with (first
    | (go_at_call 15; refine (losesHalf_spec _ _).mono ?_; rintro e w' ⟨n, rfl, rfl⟩)
    | (go_at_call 16; refine (losesHalf_impl _ _).mono ?_; rintro e w' ⟨n, rfl, rfl⟩))
  go_ret
  exact ⟨rfl, below_drewN (Below.refl _ _) _⟩
end Go.Proofs.Ytdkodeelddjimaa
