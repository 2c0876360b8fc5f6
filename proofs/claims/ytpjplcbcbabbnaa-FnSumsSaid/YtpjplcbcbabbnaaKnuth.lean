/-
  What a sum of two numbers loses is told exactly, for a third of a small integer and a multiple of 1024. No program in sight.
-/
import Derived.Test.YtpjplcbcbabbnaaSterb
namespace Go.Proofs.Ytpjplcbcbabbnaa
open Go

/-- A whole number rounded to 24 digits. -/
def rn24 (n : Nat) : Nat := if n < 16777216 then n else Ieee.Toward.even.cut false n (n.log2 - 23) * 2 ^ (n.log2 - 23)

theorem cut_bounds (n k : Nat) (h : k ≤ n.log2 + 2) :
    2 * (Ieee.Toward.even.cut false n k * 2 ^ k) ≤ 2 * n + 2 ^ k ∧ 2 * n ≤ 2 * (Ieee.Toward.even.cut false n k * 2 ^ k) + 2 ^ k := by
  rw [Ieee.cut_even false n k h]
  have hp := Nat.two_pow_pos k
  have hd := Nat.div_add_mod n (2 ^ k)
  have hm := Nat.mod_lt n hp
  rw [Nat.mul_comm] at hd
  split
  · rename_i hc
    rw [Nat.add_mul, Nat.one_mul]
    rcases hc with hc | hc <;> omega
  · rename_i hc
    rw [Nat.add_zero]
    have : ¬ 2 ^ k < 2 * (n % 2 ^ k) := fun h => hc (.inl h)
    omega
theorem cut_le {n : Nat} (h : 16777216 ≤ n) : Ieee.Toward.even.cut false n (n.log2 - 23) ≤ 16777216 ∧ 8388608 ≤ Ieee.Toward.even.cut false n (n.log2 - 23) := by
  have h0 : n ≠ 0 := by omega
  have hl : 24 ≤ n.log2 := (Nat.le_log2 h0).2 h
  rw [Ieee.cut_even false n _ (by omega)]
  have hp := Nat.two_pow_pos (n.log2 - 23)
  have h1 : n / 2 ^ (n.log2 - 23) < 16777216 := by
    rw [Nat.div_lt_iff_lt_mul hp, show 16777216 = 2 ^ 24 from rfl, ← Nat.pow_add, show 24 + (n.log2 - 23) = n.log2 + 1 by omega]
    exact Nat.lt_log2_self
  have h2 : 8388608 ≤ n / 2 ^ (n.log2 - 23) := by
    rw [Nat.le_div_iff_mul_le hp, show 8388608 = 2 ^ 23 from rfl, ← Nat.pow_add, show 23 + (n.log2 - 23) = n.log2 by omega]
    exact Nat.log2_self_le h0
  split <;> omega
theorem rnd_scale (n j : Nat) (hn : n < 2 ^ 100) (hj : j ≤ 124) : Ieee.single.units (Ieee.single.rnd (n * 2 ^ j)) = rn24 n * 2 ^ j ∧ Ieee.single.rnd (n * 2 ^ j) < Ieee.single.infRung := by
  by_cases h : n < 16777216
  · have e : rn24 n = n := by unfold rn24; rw [if_pos h]
    rw [e]
    refine ⟨Ieee.single.units_rnd rfl (by rw [s_b]; exact h), Ieee.single.rnd_lt rfl (by rw [s_b]; exact h) ?_ s_e⟩
    refine Nat.lt_of_lt_of_le (Nat.mul_lt_mul_of_pos_right (show n < 2 ^ 24 from h) (Nat.two_pow_pos j)) ?_
    rw [← Nat.pow_add]
    exact Nat.pow_le_pow_right (by decide) (Nat.le_trans (Nat.add_le_add_left hj 24) (by decide))
  · have h0 : n ≠ 0 := by omega
    have hl : 24 ≤ n.log2 := (Nat.le_log2 h0).2 (by omega)
    have hl2 : n.log2 < 100 := (Nat.log2_lt h0).2 hn
    obtain ⟨c1, c2⟩ := cut_le (n := n) (by omega)
    have e : rn24 n = Ieee.Toward.even.cut false n (n.log2 - 23) * 2 ^ (n.log2 - 23) := by unfold rn24; rw [if_neg h]
    have hp := Nat.two_pow_pos j
    have er : Ieee.single.rnd (n * 2 ^ j) = (n.log2 - 23 + j) * 8388608 + Ieee.Toward.even.cut false n (n.log2 - 23) := by
      unfold Ieee.Format.rnd
      rw [if_neg (by rw [s_b]; have := Nat.le_mul_of_pos_right n hp; omega), Ieee.log2_shift n j h0, s_b,
        show n.log2 + j - Ieee.single.fractionBits = n.log2 - 23 + j by show n.log2 + j - 23 = _; omega, Ieee.cut_scale false n _ j h0]
    rw [e, er]
    have hk : n.log2 - 23 ≤ 76 := by omega
    generalize Ieee.Toward.even.cut false n (n.log2 - 23) = q at *
    generalize n.log2 - 23 = k at *
    constructor
    · unfold Ieee.Format.units
      rw [s_b, if_neg (by omega)]
      by_cases hq : q = 16777216
      · subst hq
        have d1 : ((k + j) * 8388608 + 16777216) / 8388608 = k + j + 2 := by omega
        have d2 : ((k + j) * 8388608 + 16777216) % 8388608 = 0 := by omega
        rw [d1, d2, show k + j + 2 - 1 = k + j + 1 by omega, Nat.pow_succ, Nat.pow_add]
        simp only [Nat.add_zero]
        rw [show (16777216 : Nat) = 8388608 * 2 from rfl, Nat.mul_assoc, Nat.mul_assoc, Nat.mul_assoc, Nat.mul_comm 2, Nat.mul_assoc]
      · have d1 : ((k + j) * 8388608 + q) / 8388608 = k + j + 1 := by omega
        have d2 : ((k + j) * 8388608 + q) % 8388608 = q - 8388608 := by omega
        rw [d1, d2, show k + j + 1 - 1 = k + j by omega, show 8388608 + (q - 8388608) = q by omega, Nat.pow_add, Nat.mul_assoc]
    · show _ < 2139095040; omega

/-- The same of a number with a sign. -/
def rI (n : Int) : Int := if n < 0 then -(rn24 n.natAbs : Int) else rn24 n.natAbs
theorem rn24_exact {c i : Nat} (hc : c < 16777216) : rn24 (c * 2 ^ i) = c * 2 ^ i := by
  unfold rn24
  split
  · rfl
  · rename_i h
    have h0 : c ≠ 0 := by intro h; subst h; simp at *
    have hl : (c * 2 ^ i).log2 = c.log2 + i := Ieee.log2_shift c i h0
    have hc2 : c.log2 < 24 := (Nat.log2_lt h0).2 hc
    have hn : 24 ≤ (c * 2 ^ i).log2 := (Nat.le_log2 (by omega)).2 (by omega)
    have hk : (c * 2 ^ i).log2 - 23 ≤ i := by omega
    generalize (c * 2 ^ i).log2 - 23 = k at *
    have e : c * 2 ^ i = c * 2 ^ (i - k) * 2 ^ k := by rw [Nat.mul_assoc, ← Nat.pow_add, show i - k + k = i by omega]
    have := Ieee.cut_scale false (c * 2 ^ (i - k)) 0 k (Nat.ne_of_gt (Nat.mul_pos (by omega) (Nat.two_pow_pos _)))
    rw [Nat.zero_add] at this
    rw [e, this, Ieee.cut_zero]
theorem rI_exact {n c : Int} {i : Nat} (h : n = c * ((2 ^ i : Nat) : Int)) (hc1 : -16777216 < c) (hc2 : c < 16777216) : rI n = n := by
  have hp := Nat.two_pow_pos i
  have e : n.natAbs = c.natAbs * 2 ^ i := by rw [h, Int.natAbs_mul]; simp
  unfold rI
  rw [e, rn24_exact (by omega), ← e]
  split <;> omega
theorem rI_small {n : Int} (h1 : -16777216 < n) (h2 : n < 16777216) : rI n = n := rI_exact (i := 0) (c := n) (by simp) h1 h2
/-- Where the number lies in a binade, the rounded one is a multiple of its last place, and half of it away at most. -/
theorem rI_near {n : Int} {k : Nat} (h1 : 2 ^ (k + 23) ≤ n.natAbs) (h2 : n.natAbs < 2 ^ (k + 24)) (hk : 1 ≤ k) :
    ∃ q : Int, rI n = q * ((2 ^ k : Nat) : Int) ∧ 2 * (rI n - n) ≤ ((2 ^ k : Nat) : Int) ∧ -((2 ^ k : Nat) : Int) ≤ 2 * (rI n - n) := by
  have hbig : 16777216 ≤ n.natAbs := by
    refine Nat.le_trans ?_ h1
    rw [show 16777216 = 2 ^ 24 from rfl]
    exact Nat.pow_le_pow_right (by decide) (by omega)
  have h0 : n.natAbs ≠ 0 := by omega
  have hl : n.natAbs.log2 = k + 23 := (Nat.log2_eq_iff h0).2 ⟨h1, h2⟩
  have hb := cut_bounds n.natAbs k (by omega)
  have e : rn24 n.natAbs = Ieee.Toward.even.cut false n.natAbs k * 2 ^ k := by
    unfold rn24; rw [if_neg (by omega), hl, show k + 23 - 23 = k by omega]
  unfold rI
  rw [e]
  generalize Ieee.Toward.even.cut false n.natAbs k = q at *
  generalize 2 ^ k = P at *
  by_cases hn : n < 0
  · refine ⟨-(q : Int), ?_, ?_, ?_⟩
    · rw [if_pos hn, Int.neg_mul]; simp
    · rw [if_pos hn]; omega
    · rw [if_pos hn]; omega
  · refine ⟨(q : Int), ?_, ?_, ?_⟩
    · rw [if_neg hn]; simp
    · rw [if_neg hn]; omega
    · rw [if_neg hn]; omega
end Go.Proofs.Ytpjplcbcbabbnaa
