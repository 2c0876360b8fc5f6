/-
  IsSubnormal and FlushSmall as plain functions of the word: what the reference computes in double precision is what the program reads off the bits. No program in sight.
-/
import Derived.Test.YtmfgffgfggkgcaaFz
namespace Go.Proofs.Ytmfgffgfggkgcaa
open Go

theorem units_lt_iff {f : Ieee.Format} (r : Nat) : f.units r < f.binade ↔ r < f.binade := by
  unfold Ieee.Format.units
  by_cases h : r < f.binade
  · simp [h]
  · have : f.binade ≤ (f.binade + r % f.binade) * 2 ^ (r / f.binade - 1) := by
      have h1 := Nat.two_pow_pos (r / f.binade - 1)
      have h2 := Nat.le_mul_of_pos_right (f.binade + r % f.binade) h1
      omega
    rw [if_neg h]
    omega
theorem units_zero_iff {f : Ieee.Format} (r : Nat) : f.units r = 0 ↔ r = 0 := by
  have hB := f.binade_pos
  unfold Ieee.Format.units
  by_cases h : r < f.binade
  · simp [h]
  · have h1 := Nat.two_pow_pos (r / f.binade - 1)
    have h2 := Nat.le_mul_of_pos_right (f.binade + r % f.binade) h1
    rw [if_neg h]
    omega

/-- The reference's absolute value is the word without its sign. -/
theorem absS_FE {x : Nat} (h : x < 4294967296) : FE .f32 (absS x) (Ieee.single.rung x) := by
  have e3 : Ieee.single.rung x = x % 2147483648 := by unfold Ieee.Format.rung; rw [s_sw]
  have e2 : Ieee.single.sgn x = (x / 2147483648 % 2 == 1) := by unfold Ieee.Format.sgn; rw [s_sw]
  have hs : Ieee.single.sgn x = false → x = Ieee.single.rung x := by
    intro h1; rw [e2] at h1; rw [e3]
    have : ¬ x / 2147483648 % 2 = 1 := by simpa using h1
    omega
  unfold absS
  rcases Nat.lt_trichotomy (Ieee.single.rung x) Ieee.single.infRung with hr | hr | hr
  · have hx : Ieee.single.fin x := hr
    rw [s_lt hx s_fin0, s_eq hx s_fin0, s_val0]
    unfold Ieee.Format.val
    have h0 := units_zero_iff (f := Ieee.single) (Ieee.single.rung x)
    cases hg : Ieee.single.sgn x with
    | true =>
      simp only [if_true, decide_eq_true_eq]
      by_cases hz : Ieee.single.units (Ieee.single.rung x) = 0
      · rw [if_neg (by omega), if_pos (by omega), h0.1 hz]; exact FE.refl _ _
      · rw [if_pos (by omega), neg_word h, hg]; exact FE.refl _ _
    | false =>
      simp only [Bool.false_eq_true, if_false, decide_eq_true_eq]
      by_cases hz : Ieee.single.units (Ieee.single.rung x) = 0
      · rw [if_neg (by omega), if_pos (by omega), h0.1 hz]; exact FE.refl _ _
      · rw [if_neg (by omega), if_neg (by omega)]; exact .inl (hs hg)
  · have hi := Ieee.single.read_inf hr (by decide)
    rw [show FloatKind.f32.format = Ieee.single from rfl, order_inf_left hi s_fin0]
    cases hg : Ieee.single.sgn x with
    | true => simp; rw [neg_word h, hg]; exact FE.refl _ _
    | false => simp; exact .inl (hs hg)
  · have hn : isN .f32 x = true := by rw [isN_s]; exact decide_eq_true hr
    rw [order_nan_left hn]
    simp
    refine .inr ⟨hn, ?_⟩
    rw [isN_s]
    have : Ieee.single.rung (Ieee.single.rung x) = Ieee.single.rung x := by unfold Ieee.Format.rung; rw [Nat.mod_mod]
    rw [this]; exact decide_eq_true hr

theorem cop_FE {s : FloatKind} {b b' : Nat} {k : FloatKind} (hne : s ≠ k) (hb : FE s b b') : cop s b k = cop s b' k := by
  rcases hb with rfl | ⟨h1, h2⟩
  · rfl
  · unfold cop; rw [conv_nan hne h1, conv_nan hne h2]

/-! ### Widening -/
theorem mul_pow_lt (n c j : Nat) : n * 2 ^ j < c * 2 ^ j ↔ n < c := Nat.mul_lt_mul_right (Nat.two_pow_pos j)
theorem rep_wide {n k : Nat} (hk : k ≤ 925) (h : Ieee.single.Rep n) : Ieee.double.Rep (n * 2 ^ k) := by
  obtain ⟨⟨m, j, h1, h2⟩, h3⟩ := h
  refine ⟨⟨m, j + k, by rw [h1, Nat.mul_assoc, ← Nat.pow_add], ?_⟩, ?_⟩
  · rw [s_b] at h2; rw [d_b]; omega
  · refine Nat.lt_of_lt_of_le (Nat.mul_lt_mul_of_pos_right h3 (Nat.two_pow_pos k)) ?_
    rw [← Nat.pow_add]
    exact Nat.pow_le_pow_right (by decide) (Nat.le_trans (Nat.add_le_add_left hk _) (by decide))
theorem widen_rep {x : Nat} (hx : Ieee.single.fin x) : Ieee.double.Rep (Ieee.single.units (Ieee.single.rung x) * 2 ^ 925) := rep_wide (n := Ieee.single.units (Ieee.single.rung x)) (k := 925) (Nat.le_refl 925) (Ieee.single.units_rep s_e hx)
theorem widen_fin {x : Nat} (hx : Ieee.single.fin x) :
    floatToFloatBits .f32 x .f64 = some (Ieee.double.put (Ieee.single.sgn x) (Ieee.single.units (Ieee.single.rung x) * 2 ^ 925)) := by
  obtain ⟨m, i, h1, h2, _, _⟩ := Ieee.single.read_fin hx
  unfold floatToFloatBits FloatKind.decode FloatKind.encode
  rw [if_neg (by decide)]
  have e0 : FloatKind.f32.format = Ieee.single := rfl
  have e0' : FloatKind.f64.format = Ieee.double := rfl
  simp only [e0, e0', h1, Ieee.Format.write]
  have e1 : Ieee.single.leastPlace + (i : Int) = Ieee.double.leastPlace + ((i + 925 : Nat) : Int) := by rw [s_lp, d_lp]; omega
  rw [e1, Ieee.double.nearest_put, Nat.pow_add, ← Nat.mul_assoc, h2]
  obtain ⟨p1, p2⟩ := Ieee.double.put_exact (s := Ieee.single.sgn x) d_e (widen_rep hx)
  obtain ⟨m', i', g1, _⟩ := Ieee.double.read_fin p1
  rw [g1]
  rfl
theorem widen_inf {x : Nat} (hx : Ieee.single.rung x = Ieee.single.infRung) :
    floatToFloatBits .f32 x .f64 = some (Ieee.double.word (Ieee.single.sgn x) Ieee.double.infRung) := by
  unfold floatToFloatBits FloatKind.decode FloatKind.encode
  rw [if_neg (by decide)]
  have e0 : FloatKind.f32.format = Ieee.single := rfl
  have e0' : FloatKind.f64.format = Ieee.double := rfl
  simp only [e0, e0', Ieee.single.read_inf hx (by decide), Ieee.Format.write]
/-- A widening is never open, but for a NaN. -/
theorem widen_fits (x : Nat) : cfits .f32 x .f64 := by
  unfold cfits
  rcases Nat.lt_trichotomy (Ieee.single.rung x) Ieee.single.infRung with h | h | h
  · rw [widen_fin h]; exact .inr rfl
  · rw [widen_inf h]; exact .inr rfl
  · exact .inl (by rw [isN_s]; exact decide_eq_true h)
theorem cval_wide (x : Nat) (w : World) : FE .f64 (cval .f32 x .f64 w) (cop .f32 x .f64) := cval_FE (by decide) (FE.refl _ _) (widen_fits x) w
theorem cval_wide_FE {x y : Nat} (h : FE .f32 x y) (w : World) : FE .f64 (cval .f32 x .f64 w) (cop .f32 y .f64) := cval_FE (by decide) h (widen_fits x) w
/-- Two single words that are the same, or both NaN, are so when widened. -/
theorem wide_both {x y : Nat} (h : FE .f32 x y) (w w' : World) : FE .f64 (cval .f32 x .f64 w) (cval .f32 y .f64 w') :=
  (cval_wide_FE h w).trans (cval_wide y w').symm
@[go_sem] theorem order_cval_left (x z : Nat) (w : World) : FloatKind.f64.format.order (cval .f32 x .f64 w) z = FloatKind.f64.format.order (cop .f32 x .f64) z := order_FE (cval_wide x w) (FE.refl _ _)
@[go_sem] theorem order_cval_right (x z : Nat) (w : World) : FloatKind.f64.format.order z (cval .f32 x .f64 w) = FloatKind.f64.format.order z (cop .f32 x .f64) := order_FE (FE.refl _ _) (cval_wide x w)

/-! ### IsSubnormal -/
def isSubS (x : Nat) : Bool := (FloatKind.f32.format.order x 0 != some .eq) && (FloatKind.f64.format.order (cop .f32 (absS x) .f64) 4039728865751334912 == some .lt)
theorem isSubS_eq {x : Nat} (h : x < 4294967296) : isSubS x = (decide (0 < x % 2147483648) && decide (x % 2147483648 < 8388608)) := by
  have e3 : Ieee.single.rung x = x % 2147483648 := by unfold Ieee.Format.rung; rw [s_sw]
  have hC : Ieee.double.fin 4039728865751334912 ∧ Ieee.double.val 4039728865751334912 = ((2 ^ 948 : Nat) : Int) := by
    constructor
    · unfold Ieee.Format.fin; decide +kernel
    · decide +kernel
  unfold isSubS
  rw [cop_FE (by decide) (absS_FE h), ← e3]
  have hrr : Ieee.single.rung (Ieee.single.rung x) = Ieee.single.rung x := by unfold Ieee.Format.rung; rw [Nat.mod_mod]
  have hsg : Ieee.single.sgn (Ieee.single.rung x) = false := by
    unfold Ieee.Format.sgn Ieee.Format.rung; rw [Nat.div_eq_of_lt (Nat.mod_lt _ Ieee.single.signWeight_pos)]; rfl
  rcases Nat.lt_trichotomy (Ieee.single.rung x) Ieee.single.infRung with hr | hr | hr
  · have hx : Ieee.single.fin x := hr
    have hx' : Ieee.single.fin (Ieee.single.rung x) := by unfold Ieee.Format.fin; rw [hrr]; exact hr
    have a1 : (FloatKind.f32.format.order x 0 != some .eq) = decide (0 < Ieee.single.rung x) := by
      rw [bne, s_eq hx s_fin0, s_val0, ← decide_not]
      apply decide_eq_decide.2
      have h0 := units_zero_iff (f := Ieee.single) (Ieee.single.rung x)
      have h1 := Ieee.single.val_natAbs x
      omega
    have rp := widen_rep hx'
    have a2 : (FloatKind.f64.format.order (cop .f32 (Ieee.single.rung x) .f64) 4039728865751334912 == some .lt) = decide (Ieee.single.rung x < 8388608) := by
      unfold cop
      rw [widen_fin hx', Option.getD_some, d_lt (Ieee.double.put_exact d_e rp).1 hC.1, Ieee.double.val_put d_e rp, hC.2, hsg, hrr]
      apply decide_eq_decide.2
      have h1 := units_lt_iff (f := Ieee.single) (Ieee.single.rung x)
      rw [s_b] at h1
      rw [← h1]
      simp only [Bool.false_eq_true, if_false]
      rw [Int.ofNat_lt, show (2 : Nat) ^ 948 = 8388608 * 2 ^ 925 from by decide +kernel]
      exact mul_pow_lt (Ieee.single.units (Ieee.single.rung x)) 8388608 925
    rw [a1, a2]
  · have hrr' : Ieee.single.rung (Ieee.single.rung x) = Ieee.single.infRung := by rw [hrr]; exact hr
    have hi : Ieee.double.read (cop .f32 (Ieee.single.rung x) .f64) = .infinity false := by
      unfold cop
      rw [widen_inf hrr', Option.getD_some, hsg]
      decide +kernel
    rw [show FloatKind.f64.format = Ieee.double from rfl, order_inf_left hi hC.1]
    rw [hr, s_inf]
    simp
  · have hn : isN .f32 (Ieee.single.rung x) = true := by rw [isN_s, hrr]; exact decide_eq_true hr
    have : cop .f32 (Ieee.single.rung x) .f64 = qn .f64 := by unfold cop; rw [conv_nan (by decide) hn]; rfl
    rw [this, order_nan_left (isN_qn _)]
    rw [s_inf] at hr
    have : ¬ Ieee.single.rung x < 8388608 := by omega
    simp [this]

/-! ### FlushSmall: a subnormal number times 0 is 0 with its sign -/
theorem flush_mul {x : Nat} (h : x < 4294967296) (hf : x % 2147483648 < 8388608) : fop .mul .f32 x 0 = x / 2147483648 * 2147483648 := by
  have e3 : Ieee.single.rung x = x % 2147483648 := by unfold Ieee.Format.rung; rw [s_sw]
  have e2 : Ieee.single.sgn x = (x / 2147483648 % 2 == 1) := by unfold Ieee.Format.sgn; rw [s_sw]
  have hx : Ieee.single.fin x := by unfold Ieee.Format.fin; rw [e3, s_inf]; omega
  obtain ⟨m, i, h1, _⟩ := Ieee.single.read_fin hx
  obtain ⟨m0, i0, g1, g2, _⟩ := Ieee.single.read_fin s_fin0
  have g3 : Ieee.single.units (Ieee.single.rung 0) = 0 := by decide +kernel
  have g4 : Ieee.single.sgn 0 = false := by decide +kernel
  have hm0 : m0 = 0 := by
    rw [g3] at g2
    rcases Nat.mul_eq_zero.1 g2 with h | h
    · exact h
    · have := Nat.two_pow_pos i0; omega
  subst hm0
  unfold fop floatBits
  simp only [show FloatKind.f32.format = Ieee.single from rfl, Ieee.Format.mul, h1, g1, g4, Ieee.Datum.product, Option.map_some, Option.getD_some, Ieee.Format.write, Nat.mul_zero, Ieee.Format.nearest_zero, Bool.xor_false]
  rw [e2]
  unfold Ieee.Format.word
  rw [s_sw]
  have hb : x / 2147483648 = 0 ∨ x / 2147483648 = 1 := by omega
  rcases hb with hb | hb <;> rw [hb] <;> rfl
end Go.Proofs.Ytmfgffgfggkgcaa
