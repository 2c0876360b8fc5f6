/-
  Steps of single precision as numbers: the digits and the place of the number on a step, the reference's tests on them, and the number of a step. No program in sight.
-/
import Derived.Test.YtmfgffgfggkgcaaDw
namespace Go.Proofs.Ytmfgffgfggkgcaa
open Go

def mOf (r : Nat) : Nat := if r < 8388608 then r else 8388608 + r % 8388608
def tOf (r : Nat) : Nat := r / 8388608 - 1
theorem mOf_lt (r : Nat) : mOf r < 16777216 := by unfold mOf; split <;> omega
theorem mOf_ge {r : Nat} (h : 0 < tOf r) : 8388608 ≤ mOf r := by unfold tOf at h; unfold mOf; split <;> omega
theorem tOf_le {r : Nat} (h : r < 2139095040) : tOf r ≤ 253 := by unfold tOf; omega
theorem of_mt (r : Nat) : r = mOf r + tOf r * 8388608 := by unfold mOf tOf; split <;> omega
theorem units_mt (r : Nat) : Ieee.single.units r = mOf r * 2 ^ tOf r := by
  unfold Ieee.Format.units mOf tOf
  rw [s_b]
  split
  · rename_i h; rw [show r / 8388608 - 1 = 0 by omega]; simp
  · rfl
/-- The digits and the place are told by the number. -/
theorem mt_unique {r n e : Nat} (h1 : n + e * 8388608 = r) (h2 : n < 16777216) (h3 : e = 0 ∨ 8388608 ≤ n) : n = mOf r ∧ e = tOf r := by
  unfold mOf tOf
  rcases h3 with h3 | h3
  · subst h3; split <;> omega
  · split <;> omega
theorem rep_mt {r : Nat} (h : r < 2139095040) : Ieee.single.Rep (mOf r * 2 ^ tOf r) := by
  rw [← units_mt]
  have hr : Ieee.single.rung r = r := by unfold Ieee.Format.rung; rw [s_sw]; omega
  have hf : Ieee.single.fin r := by unfold Ieee.Format.fin; rw [hr, s_inf]; exact h
  have := Ieee.single.units_rep s_e hf
  rwa [hr] at this
theorem put_mt {r : Nat} (s : Bool) (h : r < 2139095040) : Ieee.single.put s (mOf r * 2 ^ tOf r) = if s then r + 2147483648 else r := by
  rw [← units_mt, Ieee.single.put_units (by rw [s_inf]; exact h)]
  unfold Ieee.Format.word
  rw [s_sw, Nat.add_comm]
/-- The widened number of a step. -/
theorem wide_mt {r : Nat} (h : r < 2139095040) : floatToFloatBits .f32 r .f64 = some (dw false (mOf r) (tOf r + 925)) := by
  have hr : Ieee.single.rung r = r := by unfold Ieee.Format.rung; rw [s_sw]; omega
  have hf : Ieee.single.fin r := by unfold Ieee.Format.fin; rw [hr, s_inf]; exact h
  have hs : Ieee.single.sgn r = false := by unfold Ieee.Format.sgn; rw [s_sw, Nat.div_eq_of_lt (by omega)]; rfl
  have := widen_dw (m := mOf r) (j := tOf r) hf (by rw [hr]; exact units_mt r)
  rwa [hs] at this

theorem cmp_pow {m j c : Nat} (hm : m < 9007199254740992) (hj : j ≤ 2000) {C : Nat} (hf : Ieee.double.fin C) (hv : Ieee.double.val C = (c : Int)) :
    FloatKind.f64.format.order (dw false m j) C = some (compare ((m * 2 ^ j : Nat) : Int) (c : Int)) := by
  rw [show FloatKind.f64.format = Ieee.double from rfl, Ieee.double.order_fin (dw_fin hm hj) hf, hv, dw_val hm hj]
  rfl
theorem cmp_nat_lt {a b : Nat} (h : a < b) : compare ((a : Nat) : Int) (b : Int) = .lt := by
  simp [compare, compareOfLessAndEq, h]
theorem cmp_nat_ge {a b : Nat} (h : b ≤ a) : compare ((a : Nat) : Int) (b : Int) = .gt ∨ compare ((a : Nat) : Int) (b : Int) = .eq := by
  rcases Nat.lt_or_eq_of_le h with h | h
  · left; simp [compare, compareOfLessAndEq, show ¬ (a : Int) < (b : Int) by omega, show ¬ (a : Int) = (b : Int) by omega]
  · right; subst h; simp
/-- 2^-125: 2^949 units. -/
theorem bound125 : Ieee.double.fin 4044232465378705408 ∧ Ieee.double.val 4044232465378705408 = ((16777216 * 2 ^ 925 : Nat) : Int) := by
  constructor
  · unfold Ieee.Format.fin; decide +kernel
  · decide +kernel
theorem scale_lt {a b K : Nat} (h : a < b) : a * 2 ^ K < b * 2 ^ K := (mul_pow_lt a b K).2 h
theorem scale_le {a b K : Nat} (h : a ≤ b) : a * 2 ^ K ≤ b * 2 ^ K := Nat.mul_le_mul_right _ h
theorem below125 {m K : Nat} (hK : K = 925) (hm : m < 16777216) (c : Ieee.double.val 4044232465378705408 = ((16777216 * 2 ^ K : Nat) : Int)) :
    FloatKind.f64.format.order (dw false m (0 + K)) 4044232465378705408 = some .lt := by
  rw [Nat.zero_add, cmp_pow (by omega) (by omega) bound125.1 c, cmp_nat_lt (scale_lt hm)]
theorem above125 {m j K : Nat} (hK : K = 925) (hj : j ≤ 253) (hm : m < 16777216) (hl : 8388608 ≤ m) (c : Ieee.double.val 4044232465378705408 = ((16777216 * 2 ^ K : Nat) : Int)) :
    FloatKind.f64.format.order (dw false m (j + 1 + K)) 4044232465378705408 = some .gt ∨ FloatKind.f64.format.order (dw false m (j + 1 + K)) 4044232465378705408 = some .eq := by
  rw [cmp_pow (by omega) (by omega) bound125.1 c, Nat.pow_add, ← Nat.mul_assoc]
  have h1 : 16777216 ≤ m * 2 ^ (j + 1) := by
    have h2 : 2 ^ 1 ≤ 2 ^ (j + 1) := Nat.pow_le_pow_right (by decide) (by omega)
    calc 16777216 = 8388608 * 2 := rfl
      _ ≤ m * 2 := by omega
      _ ≤ m * 2 ^ (j + 1) := Nat.mul_le_mul_left m (by simpa using h2)
  rcases cmp_nat_ge (scale_le (K := K) h1) with h | h
  · left; rw [h]
  · right; rw [h]
theorem test125_no {m : Nat} (hm : m < 16777216) : FloatKind.f64.format.order (dw false m (0 + 925)) 4044232465378705408 = some .lt := below125 rfl hm bound125.2
theorem test125_yes {m j : Nat} (hj : j ≤ 253) (hm : m < 16777216) (hl : 8388608 ≤ m) :
    FloatKind.f64.format.order (dw false m (j + 1 + 925)) 4044232465378705408 = some .gt ∨ FloatKind.f64.format.order (dw false m (j + 1 + 925)) 4044232465378705408 = some .eq :=
  above125 rfl hj hm hl bound125.2

/-- The steps of a word. -/
def stepsOf (x : Nat) : Int := if x < 2147483648 then (x : Int) else 2147483648 - (x : Int)
/-- The word of a number of steps. -/
def wordOf (k : Int) : Nat := if k < 0 then k.natAbs + 2147483648 else k.natAbs
def finB (x : Nat) : Bool := decide (x % 2147483648 < 2139095040)
theorem finS_finB (x : Nat) : finS x = finB x := by
  rw [finS_eq, s_inf]; unfold finB Ieee.Format.rung; rw [s_sw]
theorem absS_word {x : Nat} (h : x < 4294967296) (hf : finB x = true) : absS x = x % 2147483648 := by
  have hr : Ieee.single.rung x = x % 2147483648 := by unfold Ieee.Format.rung; rw [s_sw]
  rcases absS_FE h with e | ⟨_, e⟩
  · rw [e, hr]
  · rw [isN_s, hr] at e
    have e2 : Ieee.single.rung (x % 2147483648) = x % 2147483648 := by unfold Ieee.Format.rung; rw [s_sw]; omega
    rw [e2, s_inf] at e
    unfold finB at hf
    simp at e hf
    omega
/-- x < 0, of a finite word. -/
theorem neg_test {x : Nat} (h : x < 4294967296) (hf : finB x = true) : (FloatKind.f32.format.order x 0 == some .lt) = decide (2147483648 < x) := by
  have hr : Ieee.single.rung x = x % 2147483648 := by unfold Ieee.Format.rung; rw [s_sw]
  have e2 : Ieee.single.sgn x = (x / 2147483648 % 2 == 1) := by unfold Ieee.Format.sgn; rw [s_sw]
  have hx : Ieee.single.fin x := by unfold Ieee.Format.fin; rw [hr, s_inf]; unfold finB at hf; simpa using hf
  rw [s_lt hx s_fin0, s_val0]
  have h0 := units_zero_iff (f := Ieee.single) (Ieee.single.rung x)
  apply decide_eq_decide.2
  unfold Ieee.Format.val
  rw [e2]
  rw [hr] at h0 ⊢
  by_cases hs : x < 2147483648
  · have : x / 2147483648 = 0 := by omega
    rw [this]
    simp only [show ((0 % 2 == 1) = true) = False from by simp, if_false]
    omega
  · have : x / 2147483648 = 1 := by omega
    rw [this]
    simp only [show ((1 % 2 == 1) = true) = True from by simp, if_true]
    omega
end Go.Proofs.Ytmfgffgfggkgcaa
