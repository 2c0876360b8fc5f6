/-
  What the operations of a format give on finite words, said of whole numbers: each finite word stands for a whole number of units (the least number of the format). No program in sight.
-/
import Derived.Laws.FloatBits
namespace Ieee

/-! ### cut -/
theorem cut_even (neg : Bool) (n d : Nat) (hd : d ≤ n.log2 + 2) :
    Toward.even.cut neg n d = n / 2 ^ d + (if 2 ^ d < 2 * (n % 2 ^ d) ∨ (2 ^ d = 2 * (n % 2 ^ d) ∧ n / 2 ^ d % 2 = 1) then 1 else 0) := by
  unfold Toward.cut
  rw [Nat.min_eq_left hd, Nat.one_shiftLeft]
  simp only
  by_cases h1 : 2 ^ d < 2 * (n % 2 ^ d)
  · simp [h1]
  · by_cases h2 : 2 ^ d = 2 * (n % 2 ^ d) ∧ n / 2 ^ d % 2 = 1
    · rw [if_pos (.inr h2)]
      simp [← h2.1, h2.2]
    · rw [if_neg (by intro h; rcases h with h | h; exact h1 h; exact h2 h)]
      have : (2 ^ d == 2 * (n % 2 ^ d) && n / 2 ^ d % 2 == 1) = false := by
        rw [Bool.eq_false_iff]; intro h; rw [Bool.and_eq_true, beq_iff_eq, beq_iff_eq] at h; exact h2 h
      simp [h1, this]

theorem cut_zero (neg : Bool) (n : Nat) : Toward.even.cut neg n 0 = n := by
  rw [cut_even neg n 0 (by omega)]
  simp [Nat.mod_one]

/-- Past the digits nothing is left. -/
theorem cut_far (neg : Bool) (n d : Nat) (hd : n.log2 + 2 ≤ d) : Toward.even.cut neg n d = 0 := by
  unfold Toward.cut
  rw [Nat.min_eq_right hd, Nat.one_shiftLeft]
  simp only
  have h0 : n < 2 ^ (n.log2 + 1) := Nat.lt_log2_self
  have h1 : (2 : Nat) ^ (n.log2 + 2) = 2 * 2 ^ (n.log2 + 1) := by rw [Nat.pow_succ]; omega
  have h2 : n % 2 ^ (n.log2 + 2) = n := Nat.mod_eq_of_lt (by omega)
  have h3 : n / 2 ^ (n.log2 + 2) = 0 := Nat.div_eq_of_lt (by omega)
  have h4 : ¬ 2 ^ (n.log2 + 2) < 2 * n := by omega
  have h5 : ¬ (2 ^ (n.log2 + 2) = 2 * n) := by omega
  rw [h2, h3]
  simp [h4]

theorem log2_shift (m j : Nat) (h : m ≠ 0) : (m * 2 ^ j).log2 = m.log2 + j := by
  rw [Nat.log2_eq_iff (by have := Nat.two_pow_pos j; exact Nat.ne_of_gt (Nat.mul_pos (by omega) this))]
  have h1 := Nat.log2_self_le h
  have h2 : m < 2 ^ (m.log2 + 1) := Nat.lt_log2_self
  have hp := Nat.two_pow_pos j
  constructor
  · rw [Nat.pow_add]; exact Nat.mul_le_mul_right _ h1
  · rw [show m.log2 + j + 1 = (m.log2 + 1) + j by omega, Nat.pow_add]; exact Nat.mul_lt_mul_of_pos_right h2 hp

theorem cut_scale (neg : Bool) (n d j : Nat) (h : n ≠ 0) : Toward.even.cut neg (n * 2 ^ j) (d + j) = Toward.even.cut neg n d := by
  by_cases hd : d ≤ n.log2 + 2
  · rw [cut_even neg n d hd, cut_even neg (n * 2 ^ j) (d + j) (by rw [log2_shift n j h]; omega)]
    have hp := Nat.two_pow_pos j
    have e1 : n * 2 ^ j / 2 ^ (d + j) = n / 2 ^ d := by rw [Nat.pow_add, Nat.mul_div_mul_right _ _ hp]
    have e2 : n * 2 ^ j % 2 ^ (d + j) = n % 2 ^ d * 2 ^ j := by rw [Nat.pow_add, Nat.mul_mod_mul_right]
    rw [e1, e2]
    have e3 : (2 ^ (d + j) < 2 * (n % 2 ^ d * 2 ^ j)) ↔ (2 ^ d < 2 * (n % 2 ^ d)) := by
      rw [Nat.pow_add, ← Nat.mul_assoc]; exact Nat.mul_lt_mul_right hp
    have e4 : (2 ^ (d + j) = 2 * (n % 2 ^ d * 2 ^ j)) ↔ (2 ^ d = 2 * (n % 2 ^ d)) := by
      rw [Nat.pow_add, ← Nat.mul_assoc]; exact Nat.mul_right_cancel_iff hp
    simp only [e3, e4]
  · rw [cut_far neg n d (by omega), cut_far neg _ _ (by rw [log2_shift n j h]; omega)]

namespace Format
variable (f : Format)

theorem nearest_zero (neg : Bool) (e : Int) : f.nearest neg 0 e = f.word neg 0 := by simp [nearest]

/-- Digits may be moved from the place into the number. -/
theorem nearest_shift (neg : Bool) (m j : Nat) (e : Int) : f.nearest neg (m * 2 ^ j) e = f.nearest neg m (e + j) := by
  by_cases h : m = 0
  · subst h; rw [Nat.zero_mul, nearest_zero, nearest_zero]
  have h' : m * 2 ^ j ≠ 0 := Nat.ne_of_gt (Nat.mul_pos (by omega) (Nat.two_pow_pos j))
  unfold nearest
  rw [if_neg h, if_neg h', log2_shift m j h]
  have hl : e + ((m.log2 + j : Nat) : Int) - (f.fractionBits : Int) = e + (j : Int) + (m.log2 : Int) - (f.fractionBits : Int) := by omega
  simp only [hl]
  generalize hlast : max (e + (j : Int) + (m.log2 : Int) - (f.fractionBits : Int)) f.leastPlace = last
  congr 3
  simp only [Nat.shiftLeft_eq]
  by_cases c1 : last ≤ e
  · have a1 : (last - e).toNat = 0 := by omega
    have a2 : (last - (e + j)).toNat = 0 := by omega
    rw [a1, a2, cut_zero, cut_zero, Nat.mul_assoc, ← Nat.pow_add]
    congr 2; omega
  · have a0 : (e - last).toNat = 0 := by omega
    rw [a0, Nat.pow_zero, Nat.mul_one]
    by_cases c2 : last ≤ e + j
    · have a2 : (last - (e + j)).toNat = 0 := by omega
      rw [a2, cut_zero]
      have : m * 2 ^ j = m * 2 ^ (e + j - last).toNat * 2 ^ (last - e).toNat := by
        rw [Nat.mul_assoc, ← Nat.pow_add]; congr 2; omega
      rw [this]
      have hs := cut_scale neg (m * 2 ^ (e + j - last).toNat) 0 (last - e).toNat (Nat.ne_of_gt (Nat.mul_pos (by omega) (Nat.two_pow_pos _)))
      rw [Nat.zero_add] at hs
      rw [hs, cut_zero]
    · have a1 : (e + j - last).toNat = 0 := by omega
      rw [a1, Nat.pow_zero, Nat.mul_one]
      have : (last - e).toNat = (last - (e + j)).toNat + j := by omega
      rw [this, cut_scale neg m _ j h]

/-- The rung to which a whole number of units is rounded. -/
def rnd (n : Nat) : Nat :=
  if n < 2 * f.binade then n else (n.log2 - f.fractionBits) * f.binade + Toward.even.cut false n (n.log2 - f.fractionBits)

theorem cut_neg (s : Bool) (n d : Nat) : Toward.even.cut s n d = Toward.even.cut false n d := by
  unfold Toward.cut; rfl

theorem binade_pos : 0 < f.binade := Nat.two_pow_pos _

theorem nearest_units (s : Bool) (n : Nat) : f.nearest s n f.leastPlace = f.word s (min (f.rnd n) f.infRung) := by
  by_cases h : n = 0
  · subst h; rw [nearest_zero]; unfold rnd; rw [if_pos (by have := f.binade_pos; omega)]; simp
  unfold nearest rnd
  rw [if_neg h]
  by_cases hn : n < 2 * f.binade
  · rw [if_pos hn]
    have hl : n.log2 ≤ f.fractionBits := by
      have h2 : n < 2 ^ (f.fractionBits + 1) := by rw [Nat.pow_succ]; unfold binade at hn; omega
      have := (Nat.log2_lt h).2 h2
      omega
    have e1 : max (f.leastPlace + (n.log2 : Int) - (f.fractionBits : Int)) f.leastPlace = f.leastPlace := by omega
    simp only [e1, Int.sub_self, Int.toNat_zero, Nat.shiftLeft_zero, cut_zero, Nat.zero_mul, Nat.zero_add]
  · rw [if_neg hn]
    have hl : f.fractionBits < n.log2 := by
      have h2 : 2 ^ (f.fractionBits + 1) ≤ n := by rw [Nat.pow_succ]; unfold binade at hn; omega
      have := (Nat.le_log2 h).2 h2
      omega
    have e1 : max (f.leastPlace + (n.log2 : Int) - (f.fractionBits : Int)) f.leastPlace = f.leastPlace + ((n.log2 - f.fractionBits : Nat) : Int) := by omega
    have e2 : (f.leastPlace - (f.leastPlace + ((n.log2 - f.fractionBits : Nat) : Int))).toNat = 0 := by omega
    have e3 : (f.leastPlace + ((n.log2 - f.fractionBits : Nat) : Int) - f.leastPlace).toNat = n.log2 - f.fractionBits := by omega
    simp only [e1, e2, e3, Nat.shiftLeft_zero]
    rw [cut_neg]

/-- How many units the number on a rung is. -/
def units (r : Nat) : Nat := if r < f.binade then r else (f.binade + r % f.binade) * 2 ^ (r / f.binade - 1)

/-- A number of units that has few enough digits is on a rung. -/
theorem units_rnd {n m j : Nat} (hn : n = m * 2 ^ j) (hm : m < 2 * f.binade) : f.units (f.rnd n) = n := by
  have hB := f.binade_pos
  by_cases h2 : n < 2 * f.binade
  · unfold rnd units
    rw [if_pos h2]
    split
    · rfl
    · rename_i h1
      have d1 : n / f.binade = 1 := by
        rw [Nat.div_eq_iff hB]; omega
      have d2 : n % f.binade = n - f.binade := by
        have := Nat.div_add_mod n f.binade
        rw [d1] at this; omega
      rw [d1, d2]; simp; omega
  · have h0 : n ≠ 0 := by omega
    have hm0 : m ≠ 0 := by intro h; subst h; simp at hn; omega
    unfold rnd
    rw [if_neg h2]
    have hl : f.fractionBits < n.log2 := by
      have h2' : 2 ^ (f.fractionBits + 1) ≤ n := by rw [Nat.pow_succ]; unfold binade at h2; omega
      have := (Nat.le_log2 h0).2 h2'
      omega
    have hlm : m.log2 ≤ f.fractionBits := by
      have h2' : m < 2 ^ (f.fractionBits + 1) := by rw [Nat.pow_succ]; unfold binade at hm; omega
      have := (Nat.log2_lt hm0).2 h2'
      omega
    have hlog : n.log2 = m.log2 + j := by rw [hn, log2_shift m j hm0]
    have hk : n.log2 - f.fractionBits ≤ j := by omega
    generalize hK : n.log2 - f.fractionBits = k at *
    have hq : n = m * 2 ^ (j - k) * 2 ^ k := by
      rw [Nat.mul_assoc, ← Nat.pow_add, show j - k + k = j by omega]; exact hn
    generalize m * 2 ^ (j - k) = q at hq
    have hq0 : q ≠ 0 := by intro h; subst h; simp at hq; omega
    have hc : Toward.even.cut false n k = q := by
      rw [hq]
      have := cut_scale false q 0 k hq0
      rw [Nat.zero_add] at this
      rw [this, cut_zero]
    rw [hc]
    have hql : q.log2 = f.fractionBits := by
      have : n.log2 = q.log2 + k := by rw [hq, log2_shift q k hq0]
      omega
    have hq1 : f.binade ≤ q := by unfold binade; rw [← hql]; exact Nat.log2_self_le hq0
    have hq2 : q < 2 * f.binade := by
      have : q < 2 ^ (q.log2 + 1) := Nat.lt_log2_self
      rw [hql, Nat.pow_succ] at this
      unfold binade; omega
    have hk0 : 0 < k := by omega
    have hr : k * f.binade + q = (q - f.binade) + f.binade * (k + 1) := by
      rw [Nat.mul_add, Nat.mul_one, Nat.mul_comm]; omega
    unfold units
    have hge : ¬ (k * f.binade + q < f.binade) := by
      have := Nat.mul_le_mul_right f.binade hk0
      omega
    rw [if_neg hge, hr, Nat.add_mul_mod_self_left, Nat.add_mul_div_left _ _ hB, Nat.mod_eq_of_lt (by omega), Nat.div_eq_of_lt (by omega)]
    rw [show f.binade + (q - f.binade) = q by omega, show 0 + (k + 1) - 1 = k by omega]
    exact hq.symm

/-! ### Words -/
def sgn (x : Nat) : Bool := x / f.signWeight % 2 == 1
def rung (x : Nat) : Nat := x % f.signWeight
def fin (x : Nat) : Prop := f.rung x < f.infRung
/-- The number of units that a finite word stands for. -/
def val (x : Nat) : Int := if f.sgn x then -(f.units (f.rung x) : Int) else f.units (f.rung x)

theorem signWeight_pos : 0 < f.signWeight := Nat.two_pow_pos _
theorem sgn_word (s : Bool) {r : Nat} (h : r < f.signWeight) : f.sgn (f.word s r) = s := by
  have hp := f.signWeight_pos
  unfold sgn word
  cases s
  · simp [Nat.div_eq_of_lt h]
  · simp only [if_true]
    rw [Nat.add_div_left _ hp, Nat.div_eq_of_lt h]; rfl
theorem rung_word (s : Bool) {r : Nat} (h : r < f.signWeight) : f.rung (f.word s r) = r := by
  unfold rung word
  cases s
  · simp [Nat.mod_eq_of_lt h]
  · simp only [if_true]
    rw [Nat.add_mod_left, Nat.mod_eq_of_lt h]

theorem binade_le_infRung (h : 1 ≤ f.exponentBits) : f.binade ≤ f.infRung := by
  unfold infRung
  have : 2 ≤ 2 ^ f.exponentBits := by
    calc 2 = 2 ^ 1 := rfl
      _ ≤ 2 ^ f.exponentBits := Nat.pow_le_pow_right (by decide) h
  exact Nat.le_mul_of_pos_left _ (by omega)

/-- What a finite word reads as. -/
theorem read_fin {x : Nat} (h : f.fin x) : ∃ m i, f.read x = .number (f.sgn x) m (f.leastPlace + (i : Nat)) ∧ m * 2 ^ i = f.units (f.rung x) ∧ m < 2 * f.binade ∧ (m < f.binade → i = 0) := by
  have hB := f.binade_pos
  unfold fin at h
  unfold read
  simp only
  by_cases h1 : f.rung x < f.binade
  · refine ⟨f.rung x, 0, ?_, ?_, by omega, fun _ => rfl⟩
    · rw [if_pos (by exact h1)]; simp [sgn, rung]
    · simp [units, h1]
  · refine ⟨f.binade + f.rung x % f.binade, f.rung x / f.binade - 1, ?_, ?_, ?_, ?_⟩
    · rw [if_neg (by exact h1), if_pos (by exact h)]; simp [sgn, rung]
    · simp [units, h1]
    · have := Nat.mod_lt (f.rung x) hB; omega
    · intro h; omega

theorem signed_mul (s : Bool) (m i : Nat) : signed s m i = if s then -((m * 2 ^ i : Nat) : Int) else ((m * 2 ^ i : Nat) : Int) := by
  unfold signed; rw [Nat.shiftLeft_eq]

/-- Zero units to a sign, rounded. -/
def put (s : Bool) (n : Nat) : Nat := f.word s (min (f.rnd n) f.infRung)

theorem nearest_put (s : Bool) (m i : Nat) : f.nearest s m (f.leastPlace + (i : Nat)) = f.put s (m * 2 ^ i) := by
  rw [← f.nearest_shift, nearest_units]; rfl


theorem infRung_lt' : f.infRung < f.signWeight := f.infRung_lt
theorem put_rung_lt (n : Nat) : min (f.rnd n) f.infRung < f.signWeight := Nat.lt_of_le_of_lt (Nat.min_le_right ..) f.infRung_lt
theorem sgn_put (s : Bool) (n : Nat) : f.sgn (f.put s n) = s := f.sgn_word s (f.put_rung_lt n)

theorem rnd_lt {n m j : Nat} (hn : n = m * 2 ^ j) (hm : m < 2 * f.binade) (ho : n < 2 ^ (f.fractionBits + 2 ^ f.exponentBits - 2)) (he : 2 ≤ f.exponentBits) : f.rnd n < f.infRung := by
  have hB := f.binade_pos
  have h4 : 4 ≤ 2 ^ f.exponentBits := by
    calc 4 = 2 ^ 2 := rfl
      _ ≤ 2 ^ f.exponentBits := Nat.pow_le_pow_right (by decide) he
  unfold rnd
  by_cases h2 : n < 2 * f.binade
  · rw [if_pos h2]
    unfold infRung
    calc n < 2 * f.binade := h2
      _ ≤ (2 ^ f.exponentBits - 1) * f.binade := Nat.mul_le_mul_right _ (by omega)
  · rw [if_neg h2]
    have h0 : n ≠ 0 := by omega
    have hl : n.log2 < f.fractionBits + 2 ^ f.exponentBits - 2 := (Nat.log2_lt h0).2 ho
    have hl' : f.fractionBits < n.log2 := by
      have h2' : 2 ^ (f.fractionBits + 1) ≤ n := by rw [Nat.pow_succ]; unfold binade at h2; omega
      have := (Nat.le_log2 h0).2 h2'
      omega
    have hm0 : m ≠ 0 := by intro h; subst h; simp at hn; omega
    have hlog : n.log2 = m.log2 + j := by rw [hn, log2_shift m j hm0]
    have hlm : m.log2 ≤ f.fractionBits := by
      have h2' : m < 2 ^ (f.fractionBits + 1) := by rw [Nat.pow_succ]; unfold binade at hm; omega
      have := (Nat.log2_lt hm0).2 h2'
      omega
    have hk : n.log2 - f.fractionBits ≤ j := by omega
    generalize hK : n.log2 - f.fractionBits = k at *
    have hq : n = m * 2 ^ (j - k) * 2 ^ k := by
      rw [Nat.mul_assoc, ← Nat.pow_add, show j - k + k = j by omega]; exact hn
    generalize m * 2 ^ (j - k) = q at hq
    have hq0 : q ≠ 0 := by intro h; subst h; simp at hq; omega
    have hc : Toward.even.cut false n k = q := by
      rw [hq]
      have := cut_scale false q 0 k hq0
      rw [Nat.zero_add] at this
      rw [this, cut_zero]
    have hql : q.log2 = f.fractionBits := by
      have : n.log2 = q.log2 + k := by rw [hq, log2_shift q k hq0]
      omega
    have hq2 : q < 2 * f.binade := by
      have : q < 2 ^ (q.log2 + 1) := Nat.lt_log2_self
      rw [hql, Nat.pow_succ] at this
      unfold binade; omega
    rw [hc]
    unfold infRung
    calc k * f.binade + q < k * f.binade + 2 * f.binade := by omega
      _ = (k + 2) * f.binade := by rw [Nat.add_mul]
      _ ≤ (2 ^ f.exponentBits - 1) * f.binade := Nat.mul_le_mul_right _ (by omega)

/-- A number of units with few enough digits, not too great. -/
def Rep (n : Nat) : Prop := (∃ m j, n = m * 2 ^ j ∧ m < 2 * f.binade) ∧ n < 2 ^ (f.fractionBits + 2 ^ f.exponentBits - 2)

theorem put_exact (he : 2 ≤ f.exponentBits) {s : Bool} {n : Nat} (h : f.Rep n) : f.fin (f.put s n) ∧ f.units (f.rung (f.put s n)) = n := by
  obtain ⟨⟨m, j, hn, hm⟩, ho⟩ := h
  have hr := f.rnd_lt hn hm ho he
  have e : f.rung (f.put s n) = f.rnd n := by
    unfold put
    rw [f.rung_word s (f.put_rung_lt n)]
    omega
  exact ⟨by unfold fin; rw [e]; exact hr, by rw [e]; exact f.units_rnd hn hm⟩

theorem val_put (he : 2 ≤ f.exponentBits) {s : Bool} {n : Nat} (h : f.Rep n) : f.val (f.put s n) = if s then -(n : Int) else n := by
  unfold val
  rw [f.sgn_put, (f.put_exact he h).2]

theorem val_natAbs (x : Nat) : (f.val x).natAbs = f.units (f.rung x) := by
  unfold val; split <;> simp

/-! ### The operations on finite words -/
theorem cmp_mul (a b : Int) (c : Nat) (hc : 0 < c) : compare (a * (c : Int)) (b * (c : Int)) = compare a b := by
  have hc' : (0 : Int) < (c : Int) := by omega
  rcases Int.lt_trichotomy a b with h | h | h
  · have h' : a * (c : Int) < b * (c : Int) := Int.mul_lt_mul_of_pos_right h hc'
    simp [compare, compareOfLessAndEq, h, h']
  · subst h; simp
  · have h' : b * (c : Int) < a * (c : Int) := Int.mul_lt_mul_of_pos_right h hc'
    have g1 : ¬ a < b := by omega
    have g2 : ¬ a = b := by omega
    have g3 : ¬ a * (c : Int) < b * (c : Int) := by omega
    have g4 : ¬ a * (c : Int) = b * (c : Int) := by omega
    simp [compare, compareOfLessAndEq, g1, g2, g3, g4]

theorem signed_scale (s : Bool) (m i b : Nat) (h : b ≤ i) : signed s m (i - b) * ((2 ^ b : Nat) : Int) = signed s m i := by
  rw [signed_mul, signed_mul]
  have : m * 2 ^ i = m * 2 ^ (i - b) * 2 ^ b := by rw [Nat.mul_assoc, ← Nat.pow_add, show i - b + b = i by omega]
  cases s
  · simp only [Bool.false_eq_true, if_false]; rw [this]; simp
  · simp only [if_true]; rw [this]; simp [Int.neg_mul]

theorem val_signed {x m i : Nat} (h : m * 2 ^ i = f.units (f.rung x)) : signed (f.sgn x) m i = f.val x := by
  rw [signed_mul]; unfold val; rw [h]

theorem order_fin {x y : Nat} (hx : f.fin x) (hy : f.fin y) : f.order x y = some (compare (f.val x) (f.val y)) := by
  obtain ⟨m, i, h1, h2, _, _⟩ := f.read_fin hx
  obtain ⟨n, j, g1, g2, _, _⟩ := f.read_fin hy
  unfold Format.order
  rw [h1, g1]
  simp only [Datum.order]
  have e1 : (f.leastPlace + (i : Int) - min (f.leastPlace + (i : Int)) (f.leastPlace + (j : Int))).toNat = i - min i j := by omega
  have e2 : (f.leastPlace + (j : Int) - min (f.leastPlace + (i : Int)) (f.leastPlace + (j : Int))).toNat = j - min i j := by omega
  rw [e1, e2, ← cmp_mul _ _ (2 ^ min i j) (Nat.two_pow_pos _), signed_scale _ _ _ _ (by omega), signed_scale _ _ _ _ (by omega), f.val_signed h2, f.val_signed g2]

/-- The word of a sum: a sum that cancels has the sign 'z'. -/
def ofSum (z : Bool) (t : Int) : Nat := f.put (if t = 0 then z else decide (t < 0)) t.natAbs

theorem sum_write {s t : Bool} {m n i j : Nat} :
    ((Datum.number s m (f.leastPlace + (i : Nat))).sum (.number t n (f.leastPlace + (j : Nat)))).map f.write = some (f.ofSum (s && t) (signed s m i + signed t n j)) := by
  simp only [Datum.sum, Option.map_some, write]
  have e1 : (f.leastPlace + (i : Int) - min (f.leastPlace + (i : Int)) (f.leastPlace + (j : Int))).toNat = i - min i j := by omega
  have e2 : (f.leastPlace + (j : Int) - min (f.leastPlace + (i : Int)) (f.leastPlace + (j : Int))).toNat = j - min i j := by omega
  have e3 : min (f.leastPlace + (i : Int)) (f.leastPlace + (j : Int)) = f.leastPlace + ((min i j : Nat) : Int) := by omega
  rw [e1, e2, e3]
  have e4 : signed s m i + signed t n j = (signed s m (i - min i j) + signed t n (j - min i j)) * ((2 ^ min i j : Nat) : Int) := by
    rw [Int.add_mul, signed_scale _ _ _ _ (by omega), signed_scale _ _ _ _ (by omega)]
  rw [e4]
  generalize signed s m (i - min i j) + signed t n (j - min i j) = T
  rw [f.nearest_put]
  have hp : (0 : Int) < ((2 ^ min i j : Nat) : Int) := by have := Nat.two_pow_pos (min i j); omega
  unfold ofSum
  congr 2
  · by_cases h0 : T = 0
    · subst h0; simp
    · have h1 : ¬ T * ((2 ^ min i j : Nat) : Int) = 0 := by
        intro h; rcases Int.mul_eq_zero.1 h with h | h <;> omega
      rw [if_neg h0, if_neg h1]
      by_cases h2 : T < 0
      · have h3 : T * ((2 ^ min i j : Nat) : Int) < 0 := Int.mul_neg_of_neg_of_pos h2 hp
        simp only [h2, h3]
      · have h3 : ¬ T * ((2 ^ min i j : Nat) : Int) < 0 := by
          have := Int.mul_nonneg (show 0 ≤ T by omega) (Int.le_of_lt hp); omega
        simp only [h2, h3]
  · rw [Int.natAbs_mul]; simp

theorem add_fin {x y : Nat} (hx : f.fin x) (hy : f.fin y) : f.add x y = some (f.ofSum (f.sgn x && f.sgn y) (f.val x + f.val y)) := by
  obtain ⟨m, i, h1, h2, _, _⟩ := f.read_fin hx
  obtain ⟨n, j, g1, g2, _, _⟩ := f.read_fin hy
  unfold Format.add
  rw [h1, g1, sum_write, f.val_signed h2, f.val_signed g2]

theorem signed_not (s : Bool) (m i : Nat) : signed (!s) m i = - signed s m i := by
  cases s <;> simp [signed_mul]

theorem sub_fin {x y : Nat} (hx : f.fin x) (hy : f.fin y) : f.sub x y = some (f.ofSum (f.sgn x && !f.sgn y) (f.val x - f.val y)) := by
  obtain ⟨m, i, h1, h2, _, _⟩ := f.read_fin hx
  obtain ⟨n, j, g1, g2, _, _⟩ := f.read_fin hy
  unfold Format.sub
  rw [h1, g1, Datum.opposite, sum_write, signed_not, f.val_signed h2, f.val_signed g2]
  rfl

/-- The word of the number two. -/
def IsTwo (t : Nat) : Prop := f.read t = .number false f.binade (1 - (f.fractionBits : Int))

theorem mul_two {x t : Nat} (hx : f.fin x) (ht : f.IsTwo t) : f.mul x t = some (f.put (f.sgn x) (2 * f.units (f.rung x))) := by
  obtain ⟨m, i, h1, h2, _, _⟩ := f.read_fin hx
  unfold Format.mul
  rw [h1, ht]
  simp only [Datum.product, Option.map_some, write, Bool.xor_false]
  unfold binade
  rw [f.nearest_shift]
  have : f.leastPlace + (i : Int) + (1 - (f.fractionBits : Int)) + (f.fractionBits : Int) = f.leastPlace + ((i + 1 : Nat) : Int) := by omega
  rw [this, f.nearest_put, ← h2, Nat.pow_succ]
  congr 2
  rw [← Nat.mul_assoc, Nat.mul_comm]

theorem div_two {x t u : Nat} (hx : f.fin x) (ht : f.IsTwo t) (hu : f.units (f.rung x) = 2 * u) : f.div x t = some (f.put (f.sgn x) u) := by
  obtain ⟨m, i, h1, h2, hm, _⟩ := f.read_fin hx
  have hB := f.binade_pos
  have hB0 : ¬ f.binade = 0 := by omega
  have hlB : f.binade.log2 = f.fractionBits := by unfold binade; exact Nat.log2_two_pow
  unfold Format.div
  rw [h1, ht]
  simp only [Datum.quotient, if_neg hB0, Option.map_some, write, Bool.xor_false, hlB, Nat.shiftLeft_eq]
  have hlm : m.log2 ≤ f.fractionBits := by
    by_cases hm0 : m = 0
    · subst hm0; simp
    · have h2' : m < 2 ^ (f.fractionBits + 1) := by rw [Nat.pow_succ]; unfold binade at hm; omega
      have := (Nat.log2_lt hm0).2 h2'
      omega
  generalize hmore : f.fractionBits + 2 + f.fractionBits - m.log2 = more
  have hge : f.fractionBits ≤ more := by omega
  have hd : m * 2 ^ more = m * 2 ^ (more - f.fractionBits) * f.binade := by
    unfold binade; rw [Nat.mul_assoc, ← Nat.pow_add, show more - f.fractionBits + f.fractionBits = more by omega]
  rw [hd, Nat.mul_div_cancel _ hB, Nat.mul_mod_left]
  simp only [bne_self_eq_false, Bool.toNat_false, Nat.add_zero]
  have e : 2 * (m * 2 ^ (more - f.fractionBits)) = m * 2 ^ (more - f.fractionBits + 1) := by rw [Nat.pow_succ, Nat.mul_comm 2, Nat.mul_assoc]
  rw [e, f.nearest_shift]
  have pl : f.leastPlace + (i : Int) - (1 - (f.fractionBits : Int)) - (more : Int) - 1 + ((more - f.fractionBits + 1 : Nat) : Int) = f.leastPlace + (i : Int) - 1 := by omega
  rw [pl]
  congr 1
  cases i with
  | succ k =>
    have : f.leastPlace + ((k + 1 : Nat) : Int) - 1 = f.leastPlace + (k : Int) := by omega
    rw [this, f.nearest_put]
    congr 1
    rw [← h2, Nat.pow_succ] at hu
    have : m * (2 ^ k * 2) = 2 * (m * 2 ^ k) := by rw [← Nat.mul_assoc]; omega
    omega
  | zero =>
    have hmu : m = u * 2 ^ 1 := by rw [← h2] at hu; simp at hu; omega
    rw [hmu, f.nearest_shift]
    have : f.leastPlace + ((0 : Nat) : Int) - 1 + ((1 : Nat) : Int) = f.leastPlace + ((0 : Nat) : Int) := by omega
    rw [this, f.nearest_put, Nat.pow_zero, Nat.mul_one]

end Format
end Ieee
