/-
  Words of double precision that stand for m * 2^j units, m of few digits: halved, doubled, compared, made of and into integers, narrowed to single precision, all exactly. No program in sight.
-/
import Derived.Test.YtmfgffgfggkgcaaSub
namespace Ieee.Format
variable (f : Format)
theorem rnd_units {r : Nat} : f.rnd (f.units r) = r := by
  have hB := f.binade_pos
  unfold units
  by_cases h1 : r < f.binade
  · rw [if_pos h1]; unfold rnd; rw [if_pos (by omega)]
  · rw [if_neg h1]
    have hm := Nat.mod_lt r hB
    have hd := Nat.div_add_mod r f.binade
    have hq1 : 1 ≤ r / f.binade := by rw [Nat.le_div_iff_mul_le hB]; omega
    generalize hK : r / f.binade - 1 = k
    have hr : r = k * f.binade + (f.binade + r % f.binade) := by
      have : r / f.binade = k + 1 := by omega
      rw [this, Nat.mul_add, Nat.mul_one, Nat.mul_comm] at hd
      omega
    generalize hq : f.binade + r % f.binade = q at *
    have hq0 : q ≠ 0 := by omega
    have hql : q.log2 = f.fractionBits := by
      rw [Nat.log2_eq_iff hq0]
      constructor
      · have : f.binade ≤ q := by omega
        exact this
      · have : q < 2 * f.binade := by omega
        rw [Nat.pow_succ]; unfold binade at this; omega
    have hl : (q * 2 ^ k).log2 = f.fractionBits + k := by rw [log2_shift q k hq0, hql]
    by_cases hk : k = 0
    · subst hk
      unfold rnd
      rw [Nat.pow_zero, Nat.mul_one, if_pos (by omega)]
      omega
    · unfold rnd
      rw [if_neg, hl, show f.fractionBits + k - f.fractionBits = k by omega]
      · have := cut_scale false q 0 k hq0
        rw [Nat.zero_add] at this
        rw [this, cut_zero]
        exact hr.symm
      · have h2 : 2 ≤ 2 ^ k := by
          calc 2 = 2 ^ 1 := rfl
            _ ≤ 2 ^ k := Nat.pow_le_pow_right (by decide) (by omega)
        have h3 : q * 2 ≤ q * 2 ^ k := Nat.mul_le_mul_left q h2
        omega
theorem put_units {s : Bool} {r : Nat} (h : r < f.infRung) : f.put s (f.units r) = f.word s r := by
  unfold put; rw [f.rnd_units, Nat.min_eq_left (by omega)]
theorem put_zero (s : Bool) : f.put s 0 = f.word s 0 := by
  unfold put rnd
  rw [if_pos (by have := f.binade_pos; omega)]; simp
end Ieee.Format
namespace Go.Proofs.Ytmfgffgfggkgcaa
open Go

/-- m * 2^j units of double precision. -/
def dw (s : Bool) (m j : Nat) : Nat := Ieee.double.put s (m * 2 ^ j)

theorem dw_rep {m j : Nat} (hm : m < 9007199254740992) (hj : j ≤ 2000) : Ieee.double.Rep (m * 2 ^ j) := by
  refine ⟨⟨m, j, rfl, by rw [d_b]; omega⟩, ?_⟩
  refine Nat.lt_of_lt_of_le (Nat.mul_lt_mul_of_pos_right (show m < 2 ^ 53 from hm) (Nat.two_pow_pos j)) ?_
  rw [← Nat.pow_add]
  exact Nat.pow_le_pow_right (by decide) (Nat.le_trans (Nat.add_le_add_left hj 53) (by decide))
section
variable {s : Bool} {m j : Nat}
theorem dw_fin (hm : m < 9007199254740992) (hj : j ≤ 2000) : Ieee.double.fin (dw s m j) := (Ieee.double.put_exact d_e (dw_rep hm hj)).1
theorem dw_units (hm : m < 9007199254740992) (hj : j ≤ 2000) : Ieee.double.units (Ieee.double.rung (dw s m j)) = m * 2 ^ j := (Ieee.double.put_exact d_e (dw_rep hm hj)).2
theorem dw_sgn : Ieee.double.sgn (dw s m j) = s := Ieee.double.sgn_put ..
theorem dw_val (hm : m < 9007199254740992) (hj : j ≤ 2000) : Ieee.double.val (dw s m j) = if s then -((m * 2 ^ j : Nat) : Int) else ((m * 2 ^ j : Nat) : Int) := Ieee.double.val_put d_e (dw_rep hm hj)
theorem d_two : Ieee.double.IsTwo 4611686018427387904 := by unfold Ieee.Format.IsTwo; decide +kernel
theorem s_two : Ieee.single.IsTwo 1073741824 := by unfold Ieee.Format.IsTwo; decide +kernel
theorem dw_half (hm : m < 9007199254740992) (hj : j + 1 ≤ 2000) : floatBits .quo .f64 (dw s m (j + 1)) 4611686018427387904 = some (dw s m j) := by
  show Ieee.double.div _ _ = _
  rw [Ieee.double.div_two (u := m * 2 ^ j) (dw_fin hm hj) d_two (by rw [dw_units hm hj, Nat.pow_succ, Nat.mul_comm 2, Nat.mul_assoc]), dw_sgn]
  rfl
theorem dw_dbl (hm : m < 9007199254740992) (hj : j ≤ 2000) : floatBits .mul .f64 (dw s m j) 4611686018427387904 = some (dw s m (j + 1)) := by
  show Ieee.double.mul _ _ = _
  rw [Ieee.double.mul_two (dw_fin hm hj) d_two, dw_sgn, dw_units hm hj, show 2 * (m * 2 ^ j) = m * 2 ^ (j + 1) by rw [Nat.pow_succ, Nat.mul_comm 2, Nat.mul_assoc]]
  rfl
end
theorem fval_some {op : BinOp} {k : FloatKind} {x y r : Nat} (h : floatBits op k x y = some r) (w : World) : fval op k x y w = r := by
  unfold fval; rw [h]
theorem fop_some {op : BinOp} {k : FloatKind} {x y r : Nat} (h : floatBits op k x y = some r) : fop op k x y = r := by
  unfold fop; rw [h]; rfl
theorem cval_some {s k : FloatKind} {b r : Nat} (h : floatToFloatBits s b k = some r) (w : World) : cval s b k w = r := by
  unfold cval; rw [h]
/-- An integer in double precision. -/
theorem dw_of_int {n : Nat} : floatOfInt .f64 (n : Int) = dw false n 1074 := by
  unfold floatOfInt FloatKind.nearest FloatKind.encode
  have e0 : FloatKind.f64.format = Ieee.double := rfl
  simp only [e0, Ieee.Format.write]
  have e1 : decide ((n : Int) < 0) = false := by simp
  have e2 : (0 : Int) = Ieee.double.leastPlace + ((1074 : Nat) : Int) := by rw [d_lp]; rfl
  rw [e1, Int.natAbs_natCast]
  conv => lhs; rw [e2]
  rw [Ieee.double.nearest_put]
  rfl
theorem cut_down (s : Bool) (n d : Nat) : Ieee.Toward.zero.cut s (n * 2 ^ d) d = n := by
  unfold Ieee.Toward.cut
  simp only [Nat.one_shiftLeft, Bool.toNat_false, Nat.add_zero]
  by_cases hn : n = 0
  · subst hn; simp
  · rw [Nat.min_eq_left (by rw [Ieee.log2_shift n d hn]; omega), Nat.mul_div_cancel _ (Nat.two_pow_pos d)]
theorem pow_split {a b m n : Nat} (hab : a ≤ b) (h : m * 2 ^ a = n * 2 ^ b) : m = n * 2 ^ (b - a) := by
  have hp : n * 2 ^ b = n * 2 ^ (b - a) * 2 ^ a := by
    rw [Nat.mul_assoc, ← Nat.pow_add, show b - a + a = b by omega]
  rw [hp] at h
  exact Nat.eq_of_mul_eq_mul_right (Nat.two_pow_pos a) h
theorem dw_to_int' {n K : Nat} (hK : K = 1074) (hn : n < 9007199254740992) : floatToIntVal .f64 (dw false n K) .i64 = some (n : Int) := by
  unfold floatToIntVal FloatKind.decode
  have e0 : FloatKind.f64.format = Ieee.double := rfl
  obtain ⟨m, i, h1, h2, h3, _⟩ := Ieee.double.read_fin (dw_fin (s := false) (j := K) hn (by omega))
  rw [dw_units hn (by omega)] at h2
  rw [dw_sgn] at h1
  rw [e0, h1]
  simp only [Ieee.Datum.toInt, Ieee.Datum.integral]
  have hc : Ieee.Toward.zero.cut false (m <<< (Ieee.double.leastPlace + (i : Int)).toNat) (-(Ieee.double.leastPlace + (i : Int))).toNat = n := by
    rw [d_lp, Nat.shiftLeft_eq]
    by_cases hi : i ≤ K
    · have a1 : (-1074 + (i : Int)).toNat = 0 := by omega
      have a2 : (-(-1074 + (i : Int))).toNat = K - i := by omega
      rw [a1, a2, Nat.pow_zero, Nat.mul_one, pow_split hi h2, cut_down]
    · have a1 : (-1074 + (i : Int)).toNat = i - K := by omega
      have a2 : (-(-1074 + (i : Int))).toNat = 0 := by omega
      rw [a1, a2, ← pow_split (a := K) (b := i) (by omega) h2.symm]
      have := cut_down false n 0
      rw [Nat.pow_zero, Nat.mul_one] at this
      exact this
  rw [hc, Ieee.Format.signed_mul]
  simp only [Bool.false_eq_true, if_false, Nat.pow_zero, Nat.mul_one]
  rw [if_pos]
  simp [IntKind.min, IntKind.max, IntKind.signed, IntKind.bits]
  omega
theorem dw_to_int {n : Nat} (hn : n < 9007199254740992) : floatToIntVal .f64 (dw false n 1074) .i64 = some (n : Int) := dw_to_int' rfl hn
/-- A narrowing of what single precision has. -/
theorem dw_narrow' {s : Bool} {m j K : Nat} (hK : K = 925) (hm : m < 9007199254740992) (hj : j + K ≤ 2000) (hr : Ieee.single.Rep (m * 2 ^ j)) :
    floatToFloatBits .f64 (dw s m (j + K)) .f32 = some (Ieee.single.put s (m * 2 ^ j)) := by
  obtain ⟨n, i, h1, h2, _, _⟩ := Ieee.double.read_fin (dw_fin (s := s) hm hj)
  rw [dw_units hm hj] at h2
  rw [dw_sgn] at h1
  unfold floatToFloatBits FloatKind.decode FloatKind.encode
  rw [if_neg (by decide)]
  have e0 : FloatKind.f32.format = Ieee.single := rfl
  have e0' : FloatKind.f64.format = Ieee.double := rfl
  simp only [e0, e0', h1, Ieee.Format.write]
  have hn : Ieee.single.nearest s n (Ieee.double.leastPlace + (i : Int)) = Ieee.single.put s (m * 2 ^ j) := by
    rw [d_lp]
    by_cases hi : K ≤ i
    · have e1 : (-1074 : Int) + (i : Int) = Ieee.single.leastPlace + ((i - K : Nat) : Int) := by rw [s_lp]; omega
      rw [e1, Ieee.single.nearest_put]
      congr 1
      rw [Nat.pow_add, ← Nat.mul_assoc] at h2
      exact (pow_split (a := K) (b := i) hi h2.symm).symm
    · rw [Nat.pow_add, ← Nat.mul_assoc] at h2
      have hn : n = m * 2 ^ j * 2 ^ (K - i) := pow_split (a := i) (b := K) (by omega) h2
      rw [hn, Ieee.single.nearest_shift]
      have e1 : (-1074 : Int) + (i : Int) + ((K - i : Nat) : Int) = Ieee.single.leastPlace + ((0 : Nat) : Int) := by rw [s_lp]; omega
      rw [e1, Ieee.single.nearest_put, Nat.pow_zero, Nat.mul_one]
  rw [hn]
  obtain ⟨p1, p2⟩ := Ieee.single.put_exact (s := s) s_e hr
  obtain ⟨m', i', g1, _⟩ := Ieee.single.read_fin p1
  rw [g1]
  rfl
theorem dw_narrow {s : Bool} {m j : Nat} (hm : m < 9007199254740992) (hj : j + 925 ≤ 2000) (hr : Ieee.single.Rep (m * 2 ^ j)) :
    floatToFloatBits .f64 (dw s m (j + 925)) .f32 = some (Ieee.single.put s (m * 2 ^ j)) := dw_narrow' rfl hm hj hr
theorem xor_top {r k : Nat} (h : r < 2 ^ k) : r ^^^ 2 ^ k = 2 ^ k + r := by
  have h1 : 2 ^ k + r = 2 ^ k ||| r := by simpa using Nat.two_pow_add_eq_or_of_lt h 1
  rw [h1]
  apply Nat.eq_of_testBit_eq
  intro i
  rw [Nat.testBit_xor, Nat.testBit_or, Nat.testBit_two_pow]
  by_cases hi : k = i
  · subst hi; simp [Nat.testBit_lt_two_pow h]
  · simp [hi]
theorem neg_of_word (k : FloatKind) (s : Bool) {r : Nat} (h : r < k.format.signWeight) : Op.negFloat k (k.format.word s r) = k.format.word (!s) r := by
  unfold Op.negFloat
  have e : (2 : Nat) ^ (k.format.exponentBits + k.format.fractionBits) = k.format.signWeight := rfl
  have hx : r ^^^ 2 ^ (k.format.exponentBits + k.format.fractionBits) = k.format.signWeight + r := by rw [← e]; exact xor_top (by rw [e]; exact h)
  cases s
  · simpa [Ieee.Format.word] using hx
  · simp only [Ieee.Format.word, if_true, Bool.not_true, Bool.false_eq_true, if_false]
    rw [← hx, Nat.xor_assoc, Nat.xor_self, Nat.xor_zero]
theorem dw_neg (s : Bool) (m j : Nat) : Op.negFloat .f64 (dw s m j) = dw (!s) m j :=
  neg_of_word .f64 s (Ieee.double.put_rung_lt _)
/-- A widening of a finite word. -/
theorem widen_dw {x m j : Nat} (hx : Ieee.single.fin x) (h : Ieee.single.units (Ieee.single.rung x) = m * 2 ^ j) : floatToFloatBits .f32 x .f64 = some (dw (Ieee.single.sgn x) m (j + 925)) := by
  rw [widen_fin hx, h]
  unfold dw
  rw [Nat.pow_add, Nat.mul_assoc]
end Go.Proofs.Ytmfgffgfggkgcaa
