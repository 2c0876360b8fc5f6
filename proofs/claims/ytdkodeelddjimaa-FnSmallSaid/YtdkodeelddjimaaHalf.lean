/-
  LosesHalf, of the program and of the reference: both answer the same plain function of the word. No condition.
-/
import Derived.Test.YtdkodeelddjimaaRows
import Derived.Test.YtdkodeelddjimaaFl
import Derived.WalkKit
import Derived.WalkSpells
import Derived.WalkLawsBesides
namespace Go.Proofs.Ytdkodeelddjimaa
open Go.RowKit

/-- 2 in single precision: 1073741824. -/
def losesHalf (x : Nat) : Bool := (FloatKind.f32).format.order (fop .mul .f32 (fop .quo .f32 x 1073741824) 1073741824) x != some .eq

theorem losesHalf_spec (x : Nat) (w : World) :
    Calls Try.prog 15 #[.float .f32 x] w fun e w' => ∃ n, e = .returned (.bool (losesHalf x)) ∧ w' = w.drewN n := by
  go_enter Try.func15, Try.ntmps15
  go_wp2
  go_ret
  exact ⟨_, rfl, rfl⟩
theorem losesHalf_impl (x : Nat) (w : World) :
    Calls Try.prog 16 #[.float .f32 x] w fun e w' => ∃ n, e = .returned (.bool (losesHalf x)) ∧ w' = w.drewN n := by
  go_enter Try.func16, Try.ntmps16
  go_wp2
  go_ret
  exact ⟨_, rfl, rfl⟩
end Go.Proofs.Ytdkodeelddjimaa
