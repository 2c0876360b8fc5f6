/-
  The text of a number of single precision, and the doubles on the way to it: plain. No program in sight.
-/
import Derived.Test.YtmfgffgfggkgcaaStepsP
import Derived.Lib.ItoaNum
import Derived.Lib.TrailingZeros
namespace Go.Proofs.Ytmfgffgfggkgcaa
open Go
def ctzM (m : Nat) : Nat := Lib.ctz 32 m
def oddM (m : Nat) : Nat := m / 2 ^ ctzM m
theorem odd_split {m : Nat} (h0 : 0 < m) (h : m < 4294967296) : m = oddM m * 2 ^ ctzM m ∧ oddM m % 2 = 1 ∧ ctzM m < 32 := by
  unfold oddM ctzM Lib.ctz
  rw [if_neg (by omega)]
  obtain ⟨k, hk, hc⟩ := Lib.ctzFrom_spec 32 m h0 (by simpa using h)
  have hd : m / 2 ^ Lib.ctzFrom 32 m = 2 * k + 1 := by
    conv => lhs; arg 1; rw [hk]
    exact Nat.mul_div_cancel_left _ (Nat.two_pow_pos _)
  rw [hd]
  exact ⟨by rw [Nat.mul_comm]; exact hk, by omega, hc⟩
theorem odd_le (m : Nat) : oddM m ≤ m := Nat.div_le_self _ _
/-- The power of two of a step. -/
def expR (r : Nat) : Int := (tOf r : Int) - 149 + ctzM (mOf r)
/-- The text of a word. -/
def fmtR (r : Nat) : List UInt8 := if r = 0 then [48] else Lib.itoa (oddM (mOf r)) ++ ([112] ++ Lib.itoa (expR r))
def sgnT (x : Nat) : List UInt8 := if 2147483648 ≤ x then [45] else []
def fmtS (x : Nat) : List UInt8 := if finB x then sgnT x ++ fmtR (x % 2147483648) else []
theorem mOf_pos {r : Nat} (h : r ≠ 0) : 0 < mOf r := by unfold mOf; split <;> omega
theorem ctz_lt {m : Nat} (h0 : 0 < m) (h : m < 16777216) : ctzM m < 24 := by
  obtain ⟨h1, h2, -⟩ := odd_split h0 (by omega)
  apply Nat.lt_of_not_le
  intro hle
  have : 2 ^ 24 ≤ 2 ^ ctzM m := Nat.pow_le_pow_right (by decide) hle
  have h3 : 2 ^ ctzM m ≤ oddM m * 2 ^ ctzM m := Nat.le_mul_of_pos_left _ (by omega)
  omega
theorem expR_bd {r : Nat} (h0 : r ≠ 0) (h : r < 2139095040) : -149 ≤ expR r ∧ expR r ≤ 127 := by
  have h1 := ctz_lt (mOf_pos h0) (mOf_lt r)
  have h2 := tOf_le h
  unfold expR
  omega
/-- Two doubles. -/
theorem dw_cmp {a b i j : Nat} (ha : a < 9007199254740992) (hb : b < 9007199254740992) (hi : i ≤ 2000) (hj : j ≤ 2000) :
    FloatKind.f64.format.order (dw false a i) (dw false b j) = some (compare ((a * 2 ^ i : Nat) : Int) ((b * 2 ^ j : Nat) : Int)) := by
  rw [show FloatKind.f64.format = Ieee.double from rfl, Ieee.double.order_fin (dw_fin ha hi) (dw_fin hb hj), dw_val ha hi, dw_val hb hj]
  rfl
theorem dw_shift (s : Bool) (m a j : Nat) : dw s (m * 2 ^ a) j = dw s m (j + a) := by
  unfold dw
  rw [Nat.mul_assoc, ← Nat.pow_add, Nat.add_comm a]
theorem c24 : (4715268809856909312 : Nat) = dw false 16777216 1074 := by
  rw [← dw_of_int]; decide +kernel
theorem cmp_nat_eq {a b : Nat} (h : a = b) : compare ((a : Nat) : Int) (b : Int) = .eq := by subst h; simp
/-- Below 2^24. -/
theorem lo24' {o J K : Nat} (hK : K = 1074) (ho : o < 16777216) (hJ : J ≤ K) : FloatKind.f64.format.order (dw false o J) (dw false 16777216 K) = some .lt := by
  rw [dw_cmp (by omega) (by omega) (by omega) (by omega), cmp_nat_lt]
  calc o * 2 ^ J < 16777216 * 2 ^ J := Nat.mul_lt_mul_of_pos_right ho (Nat.two_pow_pos _)
    _ ≤ 16777216 * 2 ^ K := Nat.mul_le_mul_left _ (Nat.pow_le_pow_right (by decide) hJ)
theorem lo24 {o J : Nat} (ho : o < 16777216) (hJ : J ≤ 1074) : FloatKind.f64.format.order (dw false o J) 4715268809856909312 = some .lt := by
  rw [c24]; exact lo24' rfl ho hJ
theorem hi24' {o a K : Nat} (hK : K = 1074) (ho : o < 16777216) (ha : a ≤ 900) : FloatKind.f64.format.order (dw false o (K + a)) (dw false 16777216 K) = some (compare ((o * 2 ^ a : Nat) : Int) ((16777216 : Nat) : Int)) := by
  rw [dw_cmp (by omega) (by omega) (by omega) (by omega), Nat.add_comm K, Nat.pow_add, ← Nat.mul_assoc]
  rw [Int.natCast_mul (o * 2 ^ a), Int.natCast_mul 16777216, Ieee.Format.cmp_mul _ _ _ (Nat.two_pow_pos _)]
theorem hi24 {o a : Nat} (ho : o < 16777216) (ha : a ≤ 900) : FloatKind.f64.format.order (dw false o (1074 + a)) 4715268809856909312 = some (compare ((o * 2 ^ a : Nat) : Int) ((16777216 : Nat) : Int)) := by
  rw [c24]; exact hi24' rfl ho ha
/-- A double cut to a whole number. -/
theorem cut_zero_div (n d : Nat) : Ieee.Toward.zero.cut false n d = n / 2 ^ d := by
  unfold Ieee.Toward.cut
  simp only [Nat.one_shiftLeft, Bool.toNat_false, Nat.add_zero]
  by_cases hd : d ≤ n.log2 + 2
  · rw [Nat.min_eq_left hd]
  · rw [Nat.min_eq_right (by omega)]
    have h1 : n < 2 ^ (n.log2 + 1) := Nat.lt_log2_self
    rw [Nat.div_eq_of_lt (Nat.lt_of_lt_of_le h1 (Nat.pow_le_pow_right (by decide) (by omega))), Nat.div_eq_of_lt (Nat.lt_of_lt_of_le h1 (Nat.pow_le_pow_right (by decide) (by omega)))]
theorem dw_trunc' {n j d K : Nat} (hK : K = 1074) (hn : n < 9007199254740992) (hj : j + d = K) : floatToIntVal .f64 (dw false n j) .i64 = some ((n / 2 ^ d : Nat) : Int) := by
  unfold floatToIntVal FloatKind.decode
  have e0 : FloatKind.f64.format = Ieee.double := rfl
  obtain ⟨m, i, h1, h2, h3, _⟩ := Ieee.double.read_fin (dw_fin (s := false) (j := j) hn (by omega))
  rw [dw_units hn (by omega)] at h2
  rw [dw_sgn] at h1
  rw [e0, h1]
  simp only [Ieee.Datum.toInt, Ieee.Datum.integral]
  have hq : n / 2 ^ d = m * 2 ^ i / 2 ^ K := by
    rw [h2, ← hj, Nat.pow_add, Nat.mul_comm (2 ^ j), Nat.mul_div_mul_right _ _ (Nat.two_pow_pos _)]
  have hc : Ieee.Toward.zero.cut false (m <<< (Ieee.double.leastPlace + (i : Int)).toNat) (-(Ieee.double.leastPlace + (i : Int))).toNat = n / 2 ^ d := by
    rw [d_lp, Nat.shiftLeft_eq, hq, cut_zero_div]
    by_cases hi : i ≤ K
    · have a1 : (-1074 + (i : Int)).toNat = 0 := by omega
      have a2 : (-(-1074 + (i : Int))).toNat = K - i := by omega
      rw [a1, a2, Nat.pow_zero, Nat.mul_one]
      conv => rhs; rw [show K = K - i + i by omega, Nat.pow_add, Nat.mul_div_mul_right _ _ (Nat.two_pow_pos _)]
    · have a1 : (-1074 + (i : Int)).toNat = i - K := by omega
      have a2 : (-(-1074 + (i : Int))).toNat = 0 := by omega
      rw [a1, a2, Nat.pow_zero, Nat.div_one]
      conv => rhs; rw [show i = i - K + K by omega, Nat.pow_add, ← Nat.mul_assoc, Nat.mul_div_cancel _ (Nat.two_pow_pos _)]
  rw [hc, Ieee.Format.signed_mul]
  simp only [Bool.false_eq_true, if_false, Nat.pow_zero, Nat.mul_one]
  have hb : n / 2 ^ d ≤ n := Nat.div_le_self _ _
  generalize n / 2 ^ d = q at *
  rw [if_pos]
  simp [IntKind.min, IntKind.max, IntKind.signed, IntKind.bits]
  omega
theorem dw_trunc {n j d : Nat} (hn : n < 9007199254740992) (hj : j + d = 1074) : floatToIntVal .f64 (dw false n j) .i64 = some ((n / 2 ^ d : Nat) : Int) := dw_trunc' rfl hn hj
/-- An odd number, scaled down, is no whole number. -/
theorem odd_frac' {o j d K : Nat} (hK : K = 1074) (ho : o % 2 = 1) (h : o < 9007199254740992) (hj : j + d = K) (hd : 0 < d) :
    (FloatKind.f64.format.order (dw false o j) (dw false (o / 2 ^ d) K) == some .eq) = false := by
  have hle : o / 2 ^ d ≤ o := Nat.div_le_self _ _
  rw [dw_cmp h (by omega) (by omega) (by omega), cmp_eq]
  refine decide_eq_false fun he => ?_
  have he : o * 2 ^ j = o / 2 ^ d * 2 ^ K := by omega
  rw [← hj, Nat.add_comm j, Nat.pow_add, ← Nat.mul_assoc] at he
  have he := Nat.eq_of_mul_eq_mul_right (Nat.two_pow_pos _) he
  obtain ⟨e, rfl⟩ : ∃ e, d = e + 1 := ⟨d - 1, by omega⟩
  rw [Nat.pow_succ, ← Nat.mul_assoc] at he
  omega
theorem odd_frac {o j d : Nat} (ho : o % 2 = 1) (h : o < 9007199254740992) (hj : j + d = 1074) (hd : 0 < d) :
    (FloatKind.f64.format.order (dw false o j) (dw false (o / 2 ^ d) 1074) == some .eq) = false := odd_frac' rfl ho h hj hd
/-- x == 0, of a finite word. -/
theorem zero_test {x : Nat} (hf : finB x = true) : (FloatKind.f32.format.order x 0 == some .eq) = decide (x % 2147483648 = 0) := by
  have hr : Ieee.single.rung x = x % 2147483648 := by unfold Ieee.Format.rung; rw [s_sw]
  have hx : Ieee.single.fin x := by unfold Ieee.Format.fin; rw [hr, s_inf]; unfold finB at hf; simpa using hf
  rw [s_eq hx s_fin0, s_val0]
  apply decide_eq_decide.2
  have h0 := units_zero_iff (f := Ieee.single) (Ieee.single.rung x)
  have h1 := Ieee.single.val_natAbs x
  rw [hr] at h0 h1
  omega
/-- Going on halving: the number is 2^24 at least. -/
theorem ge24_yes {o J : Nat} (ho : o < 16777216) (hJ : J ≤ 1974) (h : 1074 < J ∧ 16777216 ≤ o * 2 ^ (J - 1074)) :
    FloatKind.f64.format.order (dw false o J) 4715268809856909312 = some .gt ∨ FloatKind.f64.format.order (dw false o J) 4715268809856909312 = some .eq := by
  obtain ⟨a, rfl⟩ : ∃ a, J = 1074 + a := ⟨J - 1074, by omega⟩
  rw [hi24 ho (by omega)]
  rw [show 1074 + a - 1074 = a by omega] at h
  rcases cmp_nat_ge h.2 with h | h
  · left; rw [h]
  · right; rw [h]
theorem ge24_no {o J : Nat} (ho : o < 16777216) (hJ : J ≤ 1974) (h : ¬ (1074 < J ∧ 16777216 ≤ o * 2 ^ (J - 1074))) :
    FloatKind.f64.format.order (dw false o J) 4715268809856909312 = some .lt ∧ (J ≤ 1074 ∨ o * 2 ^ (J - 1074) < 16777216) := by
  by_cases hj : J ≤ 1074
  · exact ⟨lo24 ho hj, .inl hj⟩
  · obtain ⟨a, rfl⟩ : ∃ a, J = 1074 + a := ⟨J - 1074, by omega⟩
    have h2 : o * 2 ^ (1074 + a - 1074) < 16777216 := by
      apply Nat.lt_of_not_le
      intro hle
      exact h ⟨by omega, hle⟩
    refine ⟨?_, .inr h2⟩
    rw [show 1074 + a - 1074 = a by omega] at h2
    rw [hi24 ho (by omega), cmp_nat_lt h2]
theorem dw_self {o J : Nat} (ho : o < 9007199254740992) (hJ : J ≤ 2000) : (FloatKind.f64.format.order (dw false o J) (dw false o J) == some .eq) = true := by
  rw [dw_cmp ho ho hJ hJ, cmp_nat_eq rfl]; rfl
/-- The double of a word that is not 0. -/
theorem wide_odd {r : Nat} (h0 : r ≠ 0) (h : r < 2139095040) : floatToFloatBits .f32 r .f64 = some (dw false (oddM (mOf r)) (tOf r + 925 + ctzM (mOf r))) := by
  rw [wide_mt h]
  have h1 := (odd_split (mOf_pos h0) (by have := mOf_lt r; omega)).1
  rw [show dw false (mOf r) (tOf r + 925) = dw false (oddM (mOf r) * 2 ^ ctzM (mOf r)) (tOf r + 925) by rw [← h1], dw_shift]
end Go.Proofs.Ytmfgffgfggkgcaa
