/-
  The walk of the law on HalveSingle: it returns true of every word and every count.
-/
import Derived.Test.YtdkodeelddjimaaHalve
namespace Go.Proofs.Ytdkodeelddjimaa
open Go.RowKit
theorem fnExactHalveSingle_walk (a0 : Nat) (_w0 : (Lit.float .f32 a0).wf = true) (a1 : Int) (w1 : (Lit.int .i64 a1).wf = true) (w : World) :
    Calls Try.prog 7 #[.float .f32 a0, .int .i64 a1] w fun e w' => e = .returned (.bool true) ∧ Below w.heap.size w w' := by
  obtain ⟨b1, b2⟩ : -9223372036854775808 ≤ a1 ∧ a1 ≤ 9223372036854775807 := bounds64 w1
  go_enter Try.func7, Try.ntmps7
  go_wp2_with fail
  refine (halve_spec _ _ _ b1 b2).mono ?_
  rintro e w' ⟨s1, n1, rfl, hs1, rfl⟩
  go_wp2_with fail
  refine (halve_impl _ _ _ b1 b2).mono ?_
  rintro e w' ⟨s2, n2, rfl, hs2, rfl⟩
  go_wp2_with fail
  refine (sameFloat_any _ _ _ (wide_both (hs2.trans hs1.symm) _ _)).mono ?_
  rintro e w' ⟨n3, rfl, rfl⟩
  go_wp2_with fail
  go_ret
  exact ⟨rfl, by refine below_drewN ?_ _; exact Below.refl _ _⟩
end Go.Proofs.Ytdkodeelddjimaa
