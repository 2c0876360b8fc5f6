/-
  The walk of the law on TwoSum: it returns true of every two words.
-/
import Derived.Test.YtdkodeelddjimaaTwo
import Derived.Test.YtdkodeelddjimaaSame
import Derived.Test.YtdkodeelddjimaaSub
namespace Go.Proofs.Ytdkodeelddjimaa
open Go.RowKit
theorem fnExactTwoSum_walk (a0 : Nat) (_w0 : (Lit.float .f32 a0).wf = true) (a1 : Nat) (_w1 : (Lit.float .f32 a1).wf = true) (w : World) :
    Calls Try.prog 6 #[.float .f32 a0, .float .f32 a1] w fun e w' => e = .returned (.bool true) ∧ Below w.heap.size w w' := by
  go_enter Try.func6, Try.ntmps6
  go_wp2_with fail
  refine (twoSum_spec _ _ _).mono ?_
  rintro e w' ⟨s1, l1, n1, rfl, hs1, hl1, rfl⟩
  go_wp2_with fail
  refine (twoSum_impl _ _ _).mono ?_
  rintro e w' ⟨s2, l2, n2, rfl, hs2, hl2, rfl⟩
  go_wp2_with fail
  refine (sameFloat_any _ _ _ (wide_both (hs2.trans hs1.symm) _ _)).mono ?_
  rintro e w' ⟨n3, rfl, rfl⟩
  go_wp2_with fail
  refine (sameFloat_any _ _ _ (wide_both (hl2.trans hl1.symm) _ _)).mono ?_
  rintro e w' ⟨n4, rfl, rfl⟩
  go_wp2_with fail
  go_ret
  exact ⟨rfl, by refine below_drewN ?_ _; exact Below.refl _ _⟩
end Go.Proofs.Ytdkodeelddjimaa
