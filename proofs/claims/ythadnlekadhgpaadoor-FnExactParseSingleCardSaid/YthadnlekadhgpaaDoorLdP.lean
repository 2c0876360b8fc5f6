/-
  Words of double precision that scale a whole number: plain. No program in sight.
-/
import Derived.Test.YthadnlekadhgpaaDoorFmtP
import Derived.Laws.BitsAllLaws
namespace Ieee.Format
variable (f : Ieee.Format)
/-- The word of the number one. -/
def IsOne (t : Nat) : Prop := f.read t = .number false f.binade (-(f.fractionBits : Int))
theorem one_mul {x t : Nat} (hx : f.fin x) (ht : f.IsOne t) : f.mul t x = some (f.put (f.sgn x) (f.units (f.rung x))) := by
  obtain ⟨m, i, h1, h2, _, _⟩ := f.read_fin hx
  unfold Format.mul
  rw [h1, ht]
  simp only [Datum.product, Option.map_some, write, Bool.false_xor]
  unfold binade
  rw [Nat.mul_comm, f.nearest_shift]
  have : -(f.fractionBits : Int) + (f.leastPlace + (i : Int)) + (f.fractionBits : Int) = f.leastPlace + (i : Int) := by omega
  rw [this, f.nearest_put, ← h2]
end Ieee.Format
namespace Go.Proofs.YthadnlekadhgpaaDoor
open Go
theorem d_one : Ieee.double.IsOne 4607182418800017408 := by unfold Ieee.Format.IsOne; decide +kernel
/-- The word of m * 2^J units. -/
theorem dw_word {m k J q : Nat} (h1 : 2 ^ k ≤ m) (h2 : m < 2 ^ (k + 1)) (hk : k ≤ 52) (hq : q + 51 = J + k) (hq0 : 0 < q) (hql : q < 2047) :
    dw false m J = q * 4503599627370496 + (m * 2 ^ (52 - k) - 4503599627370496) ∧ m * 2 ^ (52 - k) - 4503599627370496 < 4503599627370496 := by
  have e1 : 4503599627370496 ≤ m * 2 ^ (52 - k) := by
    calc 4503599627370496 = 2 ^ k * 2 ^ (52 - k) := by rw [← Nat.pow_add, show k + (52 - k) = 52 by omega]
      _ ≤ m * 2 ^ (52 - k) := Nat.mul_le_mul_right _ h1
  have e2 : m * 2 ^ (52 - k) < 9007199254740992 := by
    calc m * 2 ^ (52 - k) < 2 ^ (k + 1) * 2 ^ (52 - k) := Nat.mul_lt_mul_of_pos_right h2 (Nat.two_pow_pos _)
      _ = 9007199254740992 := by rw [← Nat.pow_add, show k + 1 + (52 - k) = 53 by omega]
  have e3 : m * 2 ^ J = m * 2 ^ (52 - k) * 2 ^ (q - 1) ∨ J < 52 - k := by
    by_cases h : 52 - k ≤ J
    · left; rw [Nat.mul_assoc, ← Nat.pow_add, show 52 - k + (q - 1) = J by omega]
    · right; omega
  have e3 : m * 2 ^ J = m * 2 ^ (52 - k) * 2 ^ (q - 1) := by
    rcases e3 with h | h
    · exact h
    · omega
  generalize m * 2 ^ (52 - k) = N at *
  obtain ⟨F, rfl⟩ : ∃ F, N = 4503599627370496 + F := ⟨N - 4503599627370496, by omega⟩
  refine ⟨?_, by omega⟩
  have hu : Ieee.double.units (q * 4503599627370496 + (4503599627370496 + F - 4503599627370496)) = m * 2 ^ J := by
    unfold Ieee.Format.units
    rw [d_b, if_neg (by omega), e3, show (q * 4503599627370496 + (4503599627370496 + F - 4503599627370496)) % 4503599627370496 = F by omega, show (q * 4503599627370496 + (4503599627370496 + F - 4503599627370496)) / 4503599627370496 = q by omega]
  unfold dw
  rw [← hu, Ieee.double.put_units (s := false) (r := q * 4503599627370496 + (4503599627370496 + F - 4503599627370496)) (by rw [d_inf]; omega)]
  unfold Ieee.Format.word
  simp
theorem dw_one_mul {y : Nat} (h : Ieee.double.fin y) (hl : y < 9223372036854775808) : floatBits .mul .f64 4607182418800017408 y = some y := by
  show Ieee.double.mul _ _ = _
  have hr : Ieee.double.rung y = y := by unfold Ieee.Format.rung; rw [d_sw]; omega
  have hs : Ieee.double.sgn y = false := by unfold Ieee.Format.sgn; rw [d_sw, Nat.div_eq_of_lt hl]; rfl
  rw [Ieee.double.one_mul h d_one, hs, hr, Ieee.double.put_units (s := false) (r := y) (by have := h; unfold Ieee.Format.fin at this; rwa [hr] at this)]
  unfold Ieee.Format.word
  simp
theorem and_top63 {x : Nat} (h : x < 9223372036854775808) : bits .andNot .u64 (x : Int) 9223372036854775808 = (x : Int) := by
  rw [show (9223372036854775808 : Int) = ((9223372036854775808 : Nat) : Int) from rfl, u64_andNot_nat x _ (by omega) (by decide)]
  congr 1
  rw [show 18446744073709551615 - 9223372036854775808 = 2 ^ 63 - 1 by decide, Nat.and_two_pow_sub_one_eq_mod]
  omega
theorem and_exp {x : Nat} (h : x < 9223372036854775808) : bits .andNot .u64 (x : Int) 9218868437227405312 = ((x % 4503599627370496 : Nat) : Int) := by
  rw [show (9218868437227405312 : Int) = ((9218868437227405312 : Nat) : Int) from rfl, u64_andNot_nat x _ (by omega) (by decide)]
  congr 1
  have e1 : x &&& (2 ^ 63 - 1) = x := by rw [Nat.and_two_pow_sub_one_eq_mod]; omega
  conv => lhs; arg 1; rw [← e1]
  rw [Nat.and_assoc, show (2 ^ 63 - 1) &&& (18446744073709551615 - 9218868437227405312) = 2 ^ 52 - 1 by decide +kernel, Nat.and_two_pow_sub_one_eq_mod]
theorem or_exp {F q : Nat} (hF : F < 4503599627370496) (hq : q < 2048) : bits .or .u64 (F : Int) ((q : Int) * 4503599627370496) = ((q * 4503599627370496 + F : Nat) : Int) := by
  rw [show (q : Int) * 4503599627370496 = ((q * 4503599627370496 : Nat) : Int) by simp, u64_or_nat F _ (by omega) (by omega)]
  congr 1
  rw [Nat.or_comm, nat_join 52 _ _ (by omega) (by omega)]
/-- No number of this kind is beyond the greatest double. -/
theorem not_max' {m K : Nat} (hK : K = 1074) (hm : m < 16777216) : (FloatKind.f64.format.order (dw false m K) 9218868437227405311 == some .gt) = false := by
  have hf : Ieee.double.fin 9218868437227405311 := by unfold Ieee.Format.fin; decide +kernel
  rw [d_gt (dw_fin (by omega) (by omega)) hf, dw_val (by omega) (by omega)]
  have hv : Ieee.double.val 9218868437227405311 = ((9007199254740991 * 2 ^ (K + 971) : Nat) : Int) := by
    unfold Ieee.Format.val
    have h1 : Ieee.double.sgn 9218868437227405311 = false := by decide +kernel
    have h2 : Ieee.double.rung 9218868437227405311 = 9218868437227405311 := by decide +kernel
    have h3 : Ieee.double.units 9218868437227405311 = 9007199254740991 * 2 ^ (K + 971) := by
      unfold Ieee.Format.units
      rw [d_b, if_neg (by decide)]
      congr 2
      omega
    rw [h1, h2, h3]; rfl
  rw [hv]
  refine decide_eq_false ?_
  have : m * 2 ^ K ≤ 9007199254740991 * 2 ^ (K + 971) := Nat.mul_le_mul (by omega) (Nat.pow_le_pow_right (by decide) (by omega))
  simp only [Bool.false_eq_true, if_false]
  omega
theorem not_max {m : Nat} (hm : m < 16777216) : (FloatKind.f64.format.order (dw false m 1074) 9218868437227405311 == some .gt) = false := not_max' rfl hm
theorem not_small' {m K : Nat} (hK : K = 1074) (h0 : 0 < m) (hm : m < 16777216) : (FloatKind.f64.format.order (dw false m K) 4503599627370496 == some .lt) = false := by
  have e : (4503599627370496 : Nat) = dw false 1 52 := by
    have := (dw_word (m := 1) (k := 0) (J := 52) (q := 1) (by decide) (by decide) (by decide) (by decide) (by decide) (by decide)).1
    rw [this]
  rw [e, dw_cmp (by omega) (by omega) (by omega) (by omega), cmp_lt]
  refine decide_eq_false ?_
  have : 1 * 2 ^ 52 ≤ m * 2 ^ K := Nat.mul_le_mul h0 (Nat.pow_le_pow_right (by decide) (by omega))
  omega
theorem not_small {m : Nat} (h0 : 0 < m) (hm : m < 16777216) : (FloatKind.f64.format.order (dw false m 1074) 4503599627370496 == some .lt) = false := not_small' rfl h0 hm
theorem not_zero {m J : Nat} (h0 : 0 < m) (hm : m < 16777216) (hJ : J ≤ 2000) : (FloatKind.f64.format.order (dw false m J) 0 == some .eq) = false := by
  rw [d_eq (dw_fin (by omega) hJ) d_fin0, d_val0, dw_val (by omega) hJ]
  refine decide_eq_false ?_
  have : 0 < m * 2 ^ J := Nat.mul_pos h0 (Nat.two_pow_pos _)
  simp only [Bool.false_eq_true, if_false]
  omega
end Go.Proofs.YthadnlekadhgpaaDoor
