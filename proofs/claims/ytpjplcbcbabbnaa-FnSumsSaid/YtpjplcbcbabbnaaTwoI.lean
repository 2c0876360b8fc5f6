/-
  TwoSum of the program: two plain words, up to NaN. No condition.
-/
import Derived.Test.YtpjplcbcbabbnaaRows
import Derived.Test.YtpjplcbcbabbnaaFl
import Derived.WalkKit
import Derived.WalkSpells
import Derived.WalkLawsBesides
namespace Go.Proofs.Ytpjplcbcbabbnaa
open Go.RowKit

def sumOf (a b : Nat) : Nat := fop .add .f32 a b
/-- What was lost: (a - (s - v)) + (b - v) with s = a + b, v = s - a. -/
def lostOf (a b : Nat) : Nat :=
  fop .add .f32 (fop .sub .f32 a (fop .sub .f32 (fop .add .f32 a b) (fop .sub .f32 (fop .add .f32 a b) a))) (fop .sub .f32 b (fop .sub .f32 (fop .add .f32 a b) a))


def TwoAns (a b : Nat) (w : World) (e : Ending) (w' : World) : Prop :=
  ∃ s l n, e = .returned (.tuple #[.float .f32 s, .float .f32 l]) ∧ FE .f32 s (sumOf a b) ∧ FE .f32 l (lostOf a b) ∧ w' = w.drewN n

theorem twoSum_impl (a b : Nat) (w : World) : Calls Try.prog 21 #[.float .f32 a, .float .f32 b] w (TwoAns a b w) := by
  go_enter Try.func21, Try.ntmps21
  go_wp2
  go_ret2
  exact ⟨_, _, _, rfl, fval_self .., by refine fval_to (FE.of_eq ?_); simp only [fop_fval_left, fop_fval_right, lostOf], rfl⟩
end Go.Proofs.Ytpjplcbcbabbnaa
