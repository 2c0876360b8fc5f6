/-
  The reference's absolute value. No condition.
-/
import Derived.Test.YtmfgffgfggkgcaaRows
import Derived.Test.YtmfgffgfggkgcaaSub
import Derived.WalkKit
import Derived.WalkSpells
import Derived.WalkLawsBesides
import Derived.Lib.Hide
namespace Go.Proofs.Ytmfgffgfggkgcaa
open Go.RowKit
theorem l1Abs_any (x : Nat) (w : World) : Calls Try.prog 59 #[.float .f32 x] w fun e w' => e = .returned (.float .f32 (absS x)) ∧ w = w' := by
  have hu : absS x = absS x := rfl
  unfold absS at hu
  cases h1 : (FloatKind.f32.format.order x 0 == some .lt) with
  | true =>
    have e : absS x = negS x := by unfold absS; rw [if_pos h1]
    rw [e]; clear e hu
    go_enter Try.func59, Try.ntmps59
    go_wp2
    go_ret
    exact ⟨rfl, rfl⟩
  | false =>
    cases h2 : (FloatKind.f32.format.order x 0 == some .eq) with
    | true =>
      have e : absS x = 0 := by unfold absS; rw [if_neg (by rw [h1]; decide), if_pos h2]
      rw [e]; clear e hu
      go_enter Try.func59, Try.ntmps59
      go_wp2
      go_ret
      exact ⟨rfl, rfl⟩
    | false =>
      have e : absS x = x := by unfold absS; rw [if_neg (by rw [h1]; decide), if_neg (by rw [h2]; decide)]
      rw [e]; clear e hu
      go_enter Try.func59, Try.ntmps59
      go_wp2
      go_ret
      exact ⟨rfl, rfl⟩

end Go.Proofs.Ytmfgffgfggkgcaa
