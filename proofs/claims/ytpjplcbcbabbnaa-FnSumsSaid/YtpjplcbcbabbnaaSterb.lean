/-
  The difference of two numbers of one sign that are few steps apart is exact; sums and differences that single precision has are exact. No program in sight.
-/
import Derived.Test.YtpjplcbcbabbnaaFromS
import Derived.Test.YtpjplcbcbabbnaaTwoI
namespace Go.Proofs.Ytpjplcbcbabbnaa
open Go

theorem ofSum_val {f : Ieee.Format} (he : 2 ≤ f.exponentBits) {z : Bool} {t : Int} (h : f.Rep t.natAbs) : f.fin (f.ofSum z t) ∧ f.val (f.ofSum z t) = t := by
  unfold Ieee.Format.ofSum
  refine ⟨(f.put_exact he h).1, ?_⟩
  rw [f.val_put he h]
  by_cases h0 : t = 0
  · subst h0; cases z <;> simp
  · rw [if_neg h0]
    by_cases h1 : t < 0
    · simp only [h1, decide_true, if_true]; omega
    · simp only [h1, decide_false, Bool.false_eq_true, if_false]; omega
theorem s_add_exact {x y : Nat} (hx : Ieee.single.fin x) (hy : Ieee.single.fin y) (h : Ieee.single.Rep (Ieee.single.val x + Ieee.single.val y).natAbs) :
    Ieee.single.fin (fop .add .f32 x y) ∧ Ieee.single.val (fop .add .f32 x y) = Ieee.single.val x + Ieee.single.val y := by
  have e : fop .add .f32 x y = Ieee.single.ofSum (Ieee.single.sgn x && Ieee.single.sgn y) (Ieee.single.val x + Ieee.single.val y) := by
    unfold fop floatBits
    simp only [show FloatKind.f32.format = Ieee.single from rfl, Ieee.single.add_fin hx hy, Option.getD_some]
  rw [e]; exact ofSum_val s_e h
theorem s_sub_exact {x y : Nat} (hx : Ieee.single.fin x) (hy : Ieee.single.fin y) (h : Ieee.single.Rep (Ieee.single.val x - Ieee.single.val y).natAbs) :
    Ieee.single.fin (fop .sub .f32 x y) ∧ Ieee.single.val (fop .sub .f32 x y) = Ieee.single.val x - Ieee.single.val y := by
  have e : fop .sub .f32 x y = Ieee.single.ofSum (Ieee.single.sgn x && !Ieee.single.sgn y) (Ieee.single.val x - Ieee.single.val y) := by
    unfold fop floatBits
    simp only [show FloatKind.f32.format = Ieee.single from rfl, Ieee.single.sub_fin hx hy, Option.getD_some]
  rw [e]; exact ofSum_val s_e h
theorem s_rep_val {x : Nat} (hx : Ieee.single.fin x) : Ieee.single.Rep (Ieee.single.val x).natAbs := by
  rw [Ieee.single.val_natAbs]; exact Ieee.single.units_rep s_e hx
theorem s_rep0 : Ieee.single.Rep 0 := ⟨⟨0, 0, rfl, by decide +kernel⟩, Nat.two_pow_pos _⟩

/-- The number on a step, with its sign. -/
def unitsI (k : Int) : Int := if k < 0 then -(Ieee.single.units k.natAbs : Int) else Ieee.single.units k.natAbs
theorem val_word {k : Int} (h1 : -2139095039 ≤ k) (h2 : k ≤ 2139095039) : Ieee.single.fin (wordOf k) ∧ Ieee.single.val (wordOf k) = unitsI k := by
  have hr : Ieee.single.rung (wordOf k) = k.natAbs := by
    unfold Ieee.Format.rung wordOf; rw [s_sw]; split <;> omega
  have hs : Ieee.single.sgn (wordOf k) = decide (k < 0) := by
    unfold Ieee.Format.sgn wordOf; rw [s_sw]
    split
    · rename_i h
      rw [Nat.add_div_right _ (by decide), Nat.div_eq_of_lt (by omega)]; simp [h]
    · rename_i h
      rw [Nat.div_eq_of_lt (by omega)]; simp; omega
  refine ⟨by unfold Ieee.Format.fin; rw [hr, s_inf]; omega, ?_⟩
  unfold Ieee.Format.val unitsI
  rw [hr, hs]
  by_cases h : k < 0 <;> simp [h]
theorem val_steps {x : Nat} (hx : x < 4294967296) (hf : finB x = true) : Ieee.single.fin x ∧ Ieee.single.val x = unitsI (stepsOf x) := by
  have hfb : x % 2147483648 < 2139095040 := by unfold finB at hf; simpa using hf
  have hr : Ieee.single.rung x = x % 2147483648 := by unfold Ieee.Format.rung; rw [s_sw]
  refine ⟨by unfold Ieee.Format.fin; rw [hr, s_inf]; exact hfb, ?_⟩
  have e2 : Ieee.single.sgn x = (x / 2147483648 % 2 == 1) := by unfold Ieee.Format.sgn; rw [s_sw]
  have h0 := (units_zero_iff (f := Ieee.single) 0).2 rfl
  unfold Ieee.Format.val unitsI
  rw [hr, e2]
  by_cases hs : x < 2147483648
  · have : x / 2147483648 = 0 := by omega
    rw [this]
    have e : stepsOf x = ((x % 2147483648 : Nat) : Int) := by unfold stepsOf; rw [if_pos hs]; omega
    rw [e, if_neg (show ¬ ((x % 2147483648 : Nat) : Int) < 0 by omega), Int.natAbs_natCast]; simp
  · have : x / 2147483648 = 1 := by omega
    rw [this]
    have e : stepsOf x = -((x % 2147483648 : Nat) : Int) := by unfold stepsOf; rw [if_neg hs]; omega
    rw [e, Int.natAbs_neg, Int.natAbs_natCast]
    generalize x % 2147483648 = r at *
    by_cases h : r = 0
    · subst h; rw [h0]; simp
    · rw [if_pos (show -(r : Int) < 0 by omega)]; simp

/-- Few steps apart: the difference has few digits. -/
theorem near_rep {r q : Nat} (hr : r < 2139095040) (hq : q ≤ r) (hd : r - q ≤ 4000000) : Ieee.single.units q ≤ Ieee.single.units r ∧ Ieee.single.Rep (Ieee.single.units r - Ieee.single.units q) := by
  rw [units_mt, units_mt]
  have m1 := mOf_lt r
  have m2 := mOf_lt q
  have t2 := tOf_le (r := q) (by omega)
  have o1 := of_mt r
  have o2 := of_mt q
  have g1 := mOf_ge (r := r)
  have g2 := mOf_ge (r := q)
  have hp := Nat.two_pow_pos (tOf q)
  have big : ∀ D, D < 16777216 → Ieee.single.Rep (D * 2 ^ tOf q) := by
    intro D hD
    refine ⟨⟨D, tOf q, rfl, by rw [s_b]; exact hD⟩, ?_⟩
    refine Nat.lt_of_lt_of_le (Nat.mul_lt_mul_of_pos_right (show D < 2 ^ 24 from hD) hp) ?_
    rw [← Nat.pow_add]
    exact Nat.pow_le_pow_right (by decide) (Nat.le_trans (Nat.add_le_add_left t2 24) (by decide))
  rcases (show tOf r = tOf q ∨ tOf r = tOf q + 1 by unfold tOf at *; omega) with ht | ht
  · rw [ht]
    have hle : mOf q ≤ mOf r := by rw [ht] at o1; omega
    refine ⟨Nat.mul_le_mul_right _ hle, ?_⟩
    rw [← Nat.sub_mul]
    exact big _ (by omega)
  · rw [ht, Nat.pow_succ, Nat.mul_comm (2 ^ tOf q) 2, ← Nat.mul_assoc]
    have hge := g1 (by omega)
    have hle : mOf q ≤ mOf r * 2 := by omega
    refine ⟨Nat.mul_le_mul_right _ hle, ?_⟩
    rw [← Nat.sub_mul]
    exact big _ (by rw [ht] at o1; omega)

theorem near_diff {k d : Int} (h1 : -2139095039 ≤ k) (h2 : k ≤ 2139095039) (h3 : -2139095039 ≤ k + d) (h4 : k + d ≤ 2139095039) (hd1 : -4000000 ≤ d) (hd2 : d ≤ 4000000)
    (hs : (0 < k ∧ 0 < k + d) ∨ (k < 0 ∧ k + d < 0) ∨ (k = 0 ∧ k + d = 0)) : Ieee.single.Rep (unitsI k - unitsI (k + d)).natAbs := by
  unfold unitsI
  rcases hs with ⟨p1, p2⟩ | ⟨p1, p2⟩ | ⟨p1, p2⟩
  · rw [if_neg (by omega), if_neg (by omega)]
    rcases (show (k + d).natAbs ≤ k.natAbs ∨ k.natAbs ≤ (k + d).natAbs by omega) with h | h
    · obtain ⟨a, b⟩ := near_rep (r := k.natAbs) (q := (k + d).natAbs) (by omega) h (by omega)
      rwa [show ((Ieee.single.units k.natAbs : Int) - (Ieee.single.units (k + d).natAbs : Int)).natAbs = Ieee.single.units k.natAbs - Ieee.single.units (k + d).natAbs by omega]
    · obtain ⟨a, b⟩ := near_rep (r := (k + d).natAbs) (q := k.natAbs) (by omega) h (by omega)
      rwa [show ((Ieee.single.units k.natAbs : Int) - (Ieee.single.units (k + d).natAbs : Int)).natAbs = Ieee.single.units (k + d).natAbs - Ieee.single.units k.natAbs by omega]
  · rw [if_pos (by omega), if_pos (by omega)]
    rcases (show (k + d).natAbs ≤ k.natAbs ∨ k.natAbs ≤ (k + d).natAbs by omega) with h | h
    · obtain ⟨a, b⟩ := near_rep (r := k.natAbs) (q := (k + d).natAbs) (by omega) h (by omega)
      rwa [show (-(Ieee.single.units k.natAbs : Int) - -(Ieee.single.units (k + d).natAbs : Int)).natAbs = Ieee.single.units k.natAbs - Ieee.single.units (k + d).natAbs by omega]
    · obtain ⟨a, b⟩ := near_rep (r := (k + d).natAbs) (q := k.natAbs) (by omega) h (by omega)
      rwa [show (-(Ieee.single.units k.natAbs : Int) - -(Ieee.single.units (k + d).natAbs : Int)).natAbs = Ieee.single.units (k + d).natAbs - Ieee.single.units k.natAbs by omega]
  · rw [p2, p1]; simp; exact s_rep0

theorem neg_fin {y : Nat} (hy : y < 4294967296) (hf : Ieee.single.fin y) : Ieee.single.fin (Op.negFloat .f32 y) ∧ Ieee.single.val (Op.negFloat .f32 y) = - Ieee.single.val y := by
  have e1 : Op.negFloat .f32 y = if Ieee.single.sgn y then Ieee.single.rung y else Ieee.single.rung y + 2147483648 := neg_word hy
  have hr2 : Ieee.single.rung y < 2147483648 := by unfold Ieee.Format.rung; rw [s_sw]; omega
  have hr : Ieee.single.rung (Op.negFloat .f32 y) = Ieee.single.rung y := by
    rw [e1]
    generalize Ieee.single.rung y = r at *
    unfold Ieee.Format.rung; rw [s_sw]; split <;> omega
  have hs : Ieee.single.sgn (Op.negFloat .f32 y) = !Ieee.single.sgn y := by
    rw [e1]
    generalize Ieee.single.rung y = r at *
    cases Ieee.single.sgn y
    · simp only [Bool.false_eq_true, if_false]
      unfold Ieee.Format.sgn; rw [s_sw, Nat.add_div_right _ (by decide), Nat.div_eq_of_lt hr2]; rfl
    · simp only [if_true]
      unfold Ieee.Format.sgn; rw [s_sw, Nat.div_eq_of_lt hr2]; rfl
  refine ⟨by unfold Ieee.Format.fin; rw [hr]; exact hf, ?_⟩
  unfold Ieee.Format.val
  rw [hr, hs]
  cases Ieee.single.sgn y <;> simp

/-- The sum of x and -y, few steps apart, is exact, and nothing is lost. -/
theorem sterbenz {x y : Nat} (hy32 : y < 4294967296) (hx : Ieee.single.fin x) (hy : Ieee.single.fin y) (h : Ieee.single.Rep (Ieee.single.val x - Ieee.single.val y).natAbs) :
    (FloatKind.f32.format.order (fop .add .f32 (sumOf x (Op.negFloat .f32 y)) y) x == some .eq) = true ∧ (FloatKind.f32.format.order (lostOf x (Op.negFloat .f32 y)) 0 == some .eq) = true := by
  obtain ⟨n1, n2⟩ := neg_fin hy32 hy
  generalize Op.negFloat .f32 y = z at *
  obtain ⟨a1, a2⟩ := s_add_exact hx n1 (by rw [n2]; rwa [← Int.sub_eq_add_neg])
  have hs : sumOf x z = fop .add .f32 x z := rfl
  generalize hS : fop .add .f32 x z = s at *
  have rx := s_rep_val hx
  have ry := s_rep_val hy
  obtain ⟨b1, b2⟩ := s_add_exact a1 hy (by rw [a2, n2, show Ieee.single.val x + -Ieee.single.val y + Ieee.single.val y = Ieee.single.val x by omega]; exact rx)
  obtain ⟨c1, c2⟩ := s_sub_exact a1 hx (by rw [a2, n2, show Ieee.single.val x + -Ieee.single.val y - Ieee.single.val x = -Ieee.single.val y by omega, Int.natAbs_neg]; exact ry)
  generalize hV : fop .sub .f32 s x = v at *
  obtain ⟨d1, d2⟩ := s_sub_exact a1 c1 (by rw [c2, a2, n2, show Ieee.single.val x + -Ieee.single.val y - (Ieee.single.val x + -Ieee.single.val y - Ieee.single.val x) = Ieee.single.val x by omega]; exact rx)
  generalize hU : fop .sub .f32 s v = u at *
  obtain ⟨e1, e2⟩ := s_sub_exact hx d1 (by rw [d2, c2, a2, n2, show Ieee.single.val x - (Ieee.single.val x + -Ieee.single.val y - (Ieee.single.val x + -Ieee.single.val y - Ieee.single.val x)) = 0 by omega]; exact s_rep0)
  obtain ⟨f1, f2⟩ := s_sub_exact n1 c1 (by rw [n2, c2, a2, n2, show -Ieee.single.val y - (Ieee.single.val x + -Ieee.single.val y - Ieee.single.val x) = 0 by omega]; exact s_rep0)
  have z1 : Ieee.single.val (fop .sub .f32 x u) = 0 := by rw [e2, d2, c2, a2, n2]; omega
  have z2 : Ieee.single.val (fop .sub .f32 z v) = 0 := by rw [f2, c2, a2, n2]; omega
  obtain ⟨g1, g2⟩ := s_add_exact e1 f1 (by rw [z1, z2]; exact s_rep0)
  constructor
  · rw [hs, s_eq b1 hx]
    apply decide_eq_true
    rw [b2, a2, n2]; omega
  · have hl : lostOf x z = fop .add .f32 (fop .sub .f32 x u) (fop .sub .f32 z v) := by
      unfold lostOf; rw [hS, hV, hU]
    rw [hl, s_eq g1 s_fin0, s_val0]
    apply decide_eq_true
    rw [g2, z1, z2]; rfl

theorem unitsI_pos {k : Int} : 0 < unitsI k ↔ 0 < k := by
  have h0 := units_zero_iff (f := Ieee.single) k.natAbs
  unfold unitsI; split <;> omega
theorem unitsI_neg {k : Int} : unitsI k < 0 ↔ k < 0 := by
  have h0 := units_zero_iff (f := Ieee.single) k.natAbs
  unfold unitsI; split <;> omega
theorem pos_test {x : Nat} {k : Int} (hx : Ieee.single.fin x) (hv : Ieee.single.val x = unitsI k) : (FloatKind.f32.format.order x 0 == some .gt) = decide (0 < k) := by
  rw [s_gt hx s_fin0, s_val0, hv]; exact decide_eq_decide.2 unitsI_pos
theorem neg_test' {x : Nat} {k : Int} (hx : Ieee.single.fin x) (hv : Ieee.single.val x = unitsI k) : (FloatKind.f32.format.order x 0 == some .lt) = decide (k < 0) := by
  rw [s_lt hx s_fin0, s_val0, hv]; exact decide_eq_decide.2 unitsI_neg
end Go.Proofs.Ytpjplcbcbabbnaa
