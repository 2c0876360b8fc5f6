/-
  Steps keep the order of the numbers, and lead back to them. Plain.
-/
import Derived.Test.YthadnlekadhgpaaDoorStp
namespace Go.Proofs.YthadnlekadhgpaaDoor
open Go
theorem s_units_succ (r : Nat) : Ieee.single.units r < Ieee.single.units (r + 1) := by
  unfold Ieee.Format.units
  rw [s_b]
  by_cases h1 : r + 1 < 8388608
  · rw [if_pos (by omega), if_pos h1]; omega
  · by_cases h2 : r < 8388608
    · obtain rfl : r = 8388607 := by omega
      rw [if_pos (by omega), if_neg (by omega)]
      decide
    · rw [if_neg h2, if_neg h1]
      by_cases h3 : r % 8388608 + 1 < 8388608
      · rw [show (r + 1) % 8388608 = r % 8388608 + 1 by omega, show (r + 1) / 8388608 = r / 8388608 by omega]
        exact Nat.mul_lt_mul_of_pos_right (by omega) (Nat.two_pow_pos _)
      · rw [show (r + 1) % 8388608 = 0 by omega, show (r + 1) / 8388608 - 1 = r / 8388608 - 1 + 1 by omega, Nat.pow_succ, Nat.mul_comm _ 2, ← Nat.mul_assoc]
        exact Nat.mul_lt_mul_of_pos_right (by omega) (Nat.two_pow_pos _)
theorem s_units_lt {a b : Nat} (h : a < b) : Ieee.single.units a < Ieee.single.units b := by
  induction b with
  | zero => omega
  | succ b ih =>
    by_cases e : a = b
    · subst e; exact s_units_succ a
    · exact Nat.lt_trans (ih (by omega)) (s_units_succ b)
/-- The value on a step. -/
def stpV (k : Int) : Int := if k < 0 then -(Ieee.single.units k.natAbs : Int) else (Ieee.single.units k.natAbs : Int)
theorem stpV_lt {a b : Int} (h : a < b) : stpV a < stpV b := by
  unfold stpV
  by_cases ha : a < 0
  · rw [if_pos ha]
    by_cases hb : b < 0
    · rw [if_pos hb]
      have := s_units_lt (show b.natAbs < a.natAbs by omega)
      omega
    · rw [if_neg hb]
      have := s_units_lt (show 0 < a.natAbs by omega)
      omega
  · rw [if_neg ha, if_neg (by omega)]
    have := s_units_lt (show a.natAbs < b.natAbs by omega)
    omega
theorem val_steps {x : Nat} (h : x < 4294967296) : Ieee.single.val x = stpV (stepsOf x) := by
  have hr : Ieee.single.rung x = x % 2147483648 := by unfold Ieee.Format.rung; rw [s_sw]
  have e2 : Ieee.single.sgn x = (x / 2147483648 % 2 == 1) := by unfold Ieee.Format.sgn; rw [s_sw]
  unfold Ieee.Format.val stpV stepsOf
  rw [hr, e2]
  by_cases hs : x < 2147483648
  · rw [show x / 2147483648 = 0 by omega, if_pos hs]
    simp only [show ((0 % 2 == 1) = true) = False from by simp, if_false]
    rw [if_neg (by omega)]
    congr 2
    omega
  · rw [show x / 2147483648 = 1 by omega, if_neg hs]
    simp only [show ((1 % 2 == 1) = true) = True from by simp, if_true]
    by_cases h0 : x = 2147483648
    · subst h0
      decide
    · rw [if_pos (by omega), show (2147483648 - (x : Int)).natAbs = x % 2147483648 by omega]
theorem fin_of {x : Nat} (hf : finB x = true) : Ieee.single.fin x := by
  have hr : Ieee.single.rung x = x % 2147483648 := by unfold Ieee.Format.rung; rw [s_sw]
  unfold Ieee.Format.fin; rw [hr, s_inf]; unfold finB at hf; simpa using hf
theorem steps_lt {x y : Nat} (hx : x < 4294967296) (hy : y < 4294967296) (fx : finB x = true) (fy : finB y = true) : (FloatKind.f32.format.order x y == some .lt) = decide (stepsOf x < stepsOf y) := by
  rw [s_lt (fin_of fx) (fin_of fy), val_steps hx, val_steps hy]
  apply decide_eq_decide.2
  refine ⟨fun h => ?_, stpV_lt⟩
  apply Int.lt_of_not_ge
  intro hge
  rcases Int.lt_or_eq_of_le hge with g | g
  · have := stpV_lt g; omega
  · rw [g] at h; omega
theorem steps_eq {x y : Nat} (hx : x < 4294967296) (hy : y < 4294967296) (fx : finB x = true) (fy : finB y = true) : (FloatKind.f32.format.order x y == some .eq) = decide (stepsOf x = stepsOf y) := by
  rw [s_eq (fin_of fx) (fin_of fy), val_steps hx, val_steps hy]
  apply decide_eq_decide.2
  refine ⟨fun h => ?_, fun h => by rw [h]⟩
  rcases Int.lt_trichotomy (stepsOf x) (stepsOf y) with g | g | g
  · have := stpV_lt g; omega
  · exact g
  · have := stpV_lt g; omega
theorem steps_gt {x y : Nat} (hx : x < 4294967296) (hy : y < 4294967296) (fx : finB x = true) (fy : finB y = true) : (FloatKind.f32.format.order x y == some .gt) = decide (stepsOf y < stepsOf x) := by
  have h1 := steps_lt hx hy fx fy
  have h2 := steps_eq hx hy fx fy
  have ho : FloatKind.f32.format.order x y = some (compare (Ieee.single.val x) (Ieee.single.val y)) := Ieee.single.order_fin (fin_of fx) (fin_of fy)
  rw [ho] at h1 h2 ⊢
  rw [cmp_gt]
  rw [cmp_lt] at h1
  rw [cmp_eq] at h2
  have h1 := decide_eq_decide.1 h1
  have h2 := decide_eq_decide.1 h2
  apply decide_eq_decide.2
  omega
theorem fromOk_iff (k : Int) : fromOk k = true ↔ -2139095039 ≤ k ∧ k ≤ 2139095039 := by unfold fromOk; simp
/-- The word on a step. -/
theorem word_steps {k : Int} (h : fromOk k = true) : fromA k < 4294967296 ∧ finB (fromA k) = true ∧ stepsOf (fromA k) = k := by
  have hb := (fromOk_iff k).1 h
  unfold fromA
  rw [if_pos h]
  unfold wordOf finB stepsOf
  by_cases hk : k < 0
  · rw [if_pos hk]
    refine ⟨by omega, decide_eq_true (by omega), ?_⟩
    rw [if_neg (by omega)]
    omega
  · rw [if_neg hk]
    refine ⟨by omega, decide_eq_true (by omega), ?_⟩
    rw [if_pos (by omega)]
    omega
theorem stepsOf_bd {x : Nat} (h : x < 4294967296) (hf : finB x = true) : -2139095039 ≤ stepsOf x ∧ stepsOf x ≤ 2139095039 := by
  have := stepsA_bd h
  unfold stepsA at this
  rwa [hf] at this
theorem stepsA_fin {x : Nat} (hf : finB x = true) : stepsA x = stepsOf x := by unfold stepsA; rw [hf]; rfl
/-- Back from the steps of a number. -/
theorem back_eq {x : Nat} (h : x < 4294967296) (hf : finB x = true) : (FloatKind.f32.format.order (fromA (stepsOf x)) x == some .eq) = true := by
  have hb := stepsOf_bd h hf
  obtain ⟨h1, h2, h3⟩ := word_steps ((fromOk_iff (stepsOf x)).2 hb)
  rw [steps_eq h1 h h2 hf, h3]
  exact decide_eq_true rfl
end Go.Proofs.YthadnlekadhgpaaDoor
