/-
  math.Float32bits, math.Float32frombits, math.Float64bits: what a call of each gives. No condition.
-/
import Derived.Test.YthadnlekadhgpaaDoorRows
import Derived.Test.YthadnlekadhgpaaDoorFl
import Derived.WalkKit
import Derived.WalkSpells
import Derived.WalkLawsBesides
namespace Go.Proofs.YthadnlekadhgpaaDoor
open Go.RowKit
@[go_sem] theorem run_f32bits (x : Nat) (w : World) : (callFunc 22 #[.float .f32 x]).run Tryd.prog w = .ok (.value (.int .u32 x)) w := by
  rw [run_callFunc_extern (e := Extern.MathFloatBits.float32bits) Tryd.func22 (by kernel_rfl) (by kernel_rfl) (by kernel_rfl) (by kernel_rfl)]; rfl
@[go_sem] theorem run_f32frombits (n : Int) (w : World) : (callFunc 32 #[.int .u32 n]).run Tryd.prog w = .ok (.value (.float .f32 n.toNat)) w := by
  rw [run_callFunc_extern (e := Extern.MathFloatBits.float32frombits) Tryd.func32 (by kernel_rfl) (by kernel_rfl) (by kernel_rfl) (by kernel_rfl)]; rfl
@[go_sem] theorem run_f64bits (x : Nat) (w : World) : (callFunc 49 #[.float .f64 x]).run Tryd.prog w = .ok (.value (.int .u64 x)) w := by
  rw [run_callFunc_extern (e := Extern.MathFloatBits.float64bits) Tryd.func49 (by kernel_rfl) (by kernel_rfl) (by kernel_rfl) (by kernel_rfl)]; rfl
end Go.Proofs.YthadnlekadhgpaaDoor
