/-
  MultiplyPoints of the program, where no conversion is left open.
-/
import Derived.Test.YtolflcjaglgphaaCx
import Derived.Test.YtolflcjaglgphaaNearP
import Derived.Test.YtolflcjaglgphaaDw
namespace Go.Proofs.Ytolflcjaglgphaa
open Go.RowKit
theorem mul_words {p t r : Nat × Nat} (h : mulP p t = some r) :
    (∀ w1 w2 w3 w4 w5 w6 w7 w8, cval .f64 (fval .sub .f64 (fval .mul .f64 (cval .f32 p.1 .f64 w1) (cval .f32 t.1 .f64 w2) w3) (fval .mul .f64 (cval .f32 p.2 .f64 w4) (cval .f32 t.2 .f64 w5) w6) w7) .f32 w8 = r.1) ∧
    (∀ w1 w2 w3 w4 w5 w6 w7 w8, cval .f64 (fval .add .f64 (fval .mul .f64 (cval .f32 p.1 .f64 w1) (cval .f32 t.2 .f64 w2) w3) (fval .mul .f64 (cval .f32 p.2 .f64 w4) (cval .f32 t.1 .f64 w5) w6) w7) .f32 w8 = r.2) := by
  simp only [mulP, wide, slim, Option.bind_eq_bind, Option.bind_eq_some_iff, Option.pure_def, Option.some.injEq] at h
  obtain ⟨a, ha, b, hb, c, hc, d, hd, ac, hac, bd, hbd, ad, had, bc, hbc, re, hre, r1, hr1, im, him, r2, hr2, rfl⟩ := h
  constructor
  · intro w1 w2 w3 w4 w5 w6 w7 w8
    rw [cval_some ha, cval_some hb, cval_some hc, cval_some hd, fval_some hac, fval_some hbd, fval_some hre, cval_some hr1]
  · intro w1 w2 w3 w4 w5 w6 w7 w8
    rw [cval_some ha, cval_some hb, cval_some hc, cval_some hd, fval_some had, fval_some hbc, fval_some him, cval_some hr2]
theorem ret_cx {a b c d : Nat} (h1 : a = c) (h2 : b = d) : Ending.returned (.complex .f32 a b) = .returned (.complex .f32 c d) := by rw [h1, h2]
theorem multiply_i (p t r : Nat × Nat) (w : World) (h : mulP p t = some r) : Calls Try.prog 27 #[cx p, cx t] w fun e w' => e = .returned (.complex .f32 r.1 r.2) ∧ ∃ n, w' = w.drewN n := by
  have H := Lib.hid (mul_words h)
  clear h
  unfold cx
  go_enter Try.func27, Try.ntmps27
  go_wp2_with fail
  go_ret
  exact ⟨ret_cx (H.out.1 _ _ _ _ _ _ _ _) (H.out.2 _ _ _ _ _ _ _ _), _, rfl⟩
end Go.Proofs.Ytolflcjaglgphaa
