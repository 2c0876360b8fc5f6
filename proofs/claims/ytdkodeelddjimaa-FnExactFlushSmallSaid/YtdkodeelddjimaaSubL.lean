/-
  The walks of the laws on IsSubnormal and FlushSmall: each returns true of every word.
-/
import Derived.Test.YtdkodeelddjimaaFlushW
namespace Go.Proofs.Ytdkodeelddjimaa
open Go.RowKit
theorem fnExactIsSubnormal_walk (a0 : Nat) (w0 : (Lit.float .f32 a0).wf = true) (w : World) :
    Calls Try.prog 5 #[.float .f32 a0] w fun e w' => e = .returned (.bool true) ∧ Below w.heap.size w w' := by
  have h := lt_of_wf w0
  have he := isSubB_eq h
  go_enter Try.func5, Try.ntmps5
  go_wp2_with (first
    | (go_at_call 17; refine (isSub_spec _ _).mono ?_; rintro e w' ⟨n, rfl, rfl⟩)
    | (go_at_call 18; refine (isSub_impl _ h _).mono ?_; rintro e w' ⟨rfl, rfl⟩))
  go_ret
  exact ⟨rfl, below_drewN (Below.refl _ _) _⟩
theorem fnExactFlushSmall_walk (a0 : Nat) (w0 : (Lit.float .f32 a0).wf = true) (w : World) :
    Calls Try.prog 8 #[.float .f32 a0] w fun e w' => e = .returned (.bool true) ∧ Below w.heap.size w w' := by
  have h := lt_of_wf w0
  go_enter Try.func8, Try.ntmps8
  go_wp2_with (first
    | (go_at_call 24; refine (flush_spec _ h _).mono ?_; rintro e w' ⟨r, n, rfl, hr, rfl⟩)
    | (go_at_call 25; refine (flush_impl _ h _).mono ?_; rintro e w' ⟨rfl, rfl⟩)
    | (go_at_call 21; refine (sameFloat_any _ _ _ (wide_both (FE.symm hr) _ _)).mono ?_; rintro e w' ⟨n2, rfl, rfl⟩))
  go_ret
  exact ⟨rfl, by refine below_drewN ?_ _; exact Below.refl _ _⟩
end Go.Proofs.Ytdkodeelddjimaa
