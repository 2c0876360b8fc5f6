/-
  The finite words of single and double precision at Go's operations: comparison, difference, halving, doubling, widening, said of whole numbers of units. No program in sight.
-/
import Derived.Test.YtmfgffgfggkgcaaFl
import Derived.Test.YtmfgffgfggkgcaaIe
import Derived.Laws.BitsAllLaws
import Derived.Laws.DeepBits32
namespace Ieee.Format
variable (f : Format)
theorem units_rep {x : Nat} (he : 2 ≤ f.exponentBits) (h : f.fin x) : f.Rep (f.units (f.rung x)) := by
  have hB := f.binade_pos
  have h4 : 4 ≤ 2 ^ f.exponentBits := by
    calc 4 = 2 ^ 2 := rfl
      _ ≤ 2 ^ f.exponentBits := Nat.pow_le_pow_right (by decide) he
  unfold fin at h
  unfold units
  by_cases h1 : f.rung x < f.binade
  · rw [if_pos h1]
    refine ⟨⟨f.rung x, 0, by simp, by omega⟩, Nat.lt_of_lt_of_le h1 ?_⟩
    unfold binade
    exact Nat.pow_le_pow_right (by decide) (by omega)
  · rw [if_neg h1]
    have hm := Nat.mod_lt (f.rung x) hB
    refine ⟨⟨_, _, rfl, by omega⟩, ?_⟩
    have hq : f.rung x / f.binade < 2 ^ f.exponentBits - 1 := by
      rw [Nat.div_lt_iff_lt_mul hB]; exact h
    have hq1 : 1 ≤ f.rung x / f.binade := by rw [Nat.le_div_iff_mul_le hB]; omega
    calc (f.binade + f.rung x % f.binade) * 2 ^ (f.rung x / f.binade - 1) < (2 * f.binade) * 2 ^ (f.rung x / f.binade - 1) := Nat.mul_lt_mul_of_pos_right (by omega) (Nat.two_pow_pos _)
      _ = 2 ^ (f.fractionBits + 1 + (f.rung x / f.binade - 1)) := by unfold binade; rw [Nat.pow_add, Nat.pow_succ, Nat.mul_comm 2]
      _ ≤ 2 ^ (f.fractionBits + 2 ^ f.exponentBits - 2) := Nat.pow_le_pow_right (by decide) (by omega)

theorem read_inf {x : Nat} (h : f.rung x = f.infRung) (he : 1 ≤ f.exponentBits) : f.read x = .infinity (f.sgn x) := by
  have := f.binade_le_infRung he
  have h' : x % f.signWeight = f.infRung := h
  unfold read
  simp only
  rw [h', if_neg (by omega), if_neg (by omega), if_pos rfl]
  rfl
theorem read_nan {x : Nat} (h : f.infRung < f.rung x) (he : 1 ≤ f.exponentBits) : f.read x = .nan (f.sgn x) (f.rung x - f.infRung) := by
  have := f.binade_le_infRung he
  have h' : f.infRung < x % f.signWeight := h
  unfold read
  simp only
  rw [if_neg (by omega), if_neg (by omega), if_neg (by omega)]
  rfl
end Ieee.Format
namespace Go.Proofs.Ytmfgffgfggkgcaa
open Go

theorem s_sw : Ieee.single.signWeight = 2147483648 := by decide +kernel
theorem s_b : Ieee.single.binade = 8388608 := by decide +kernel
theorem s_inf : Ieee.single.infRung = 2139095040 := by decide +kernel
theorem s_lp : Ieee.single.leastPlace = -149 := by decide +kernel
theorem d_sw : Ieee.double.signWeight = 9223372036854775808 := by decide +kernel
theorem d_b : Ieee.double.binade = 4503599627370496 := by decide +kernel
theorem d_inf : Ieee.double.infRung = 9218868437227405312 := by decide +kernel
theorem d_lp : Ieee.double.leastPlace = -1074 := by decide +kernel
theorem s_e : 2 ≤ Ieee.single.exponentBits := by decide
theorem d_e : 2 ≤ Ieee.double.exponentBits := by decide

theorem isN_s (x : Nat) : isN .f32 x = decide (Ieee.single.infRung < Ieee.single.rung x) := by
  unfold isN FloatKind.decode FloatKind.format
  rcases Nat.lt_trichotomy (Ieee.single.rung x) Ieee.single.infRung with h | h | h
  · obtain ⟨m, i, h1, _⟩ := Ieee.single.read_fin (x := x) h
    rw [h1, decide_eq_false (by omega)]; rfl
  · rw [Ieee.single.read_inf h (by decide), decide_eq_false (by omega)]; rfl
  · rw [Ieee.single.read_nan h (by decide), decide_eq_true h]; rfl
theorem isN_d (x : Nat) : isN .f64 x = decide (Ieee.double.infRung < Ieee.double.rung x) := by
  unfold isN FloatKind.decode FloatKind.format
  rcases Nat.lt_trichotomy (Ieee.double.rung x) Ieee.double.infRung with h | h | h
  · obtain ⟨m, i, h1, _⟩ := Ieee.double.read_fin (x := x) h
    rw [h1, decide_eq_false (by omega)]; rfl
  · rw [Ieee.double.read_inf h (by decide), decide_eq_false (by omega)]; rfl
  · rw [Ieee.double.read_nan h (by decide), decide_eq_true h]; rfl

/-! ### Comparisons of finite words -/
theorem cmp_eq (a b : Int) : (some (compare a b) == some Ordering.eq) = decide (a = b) := by
  rcases Int.lt_trichotomy a b with h | h | h
  · simp [compare, compareOfLessAndEq, h, show ¬ a = b by omega]
  · subst h; simp
  · simp [compare, compareOfLessAndEq, show ¬ a < b by omega, show ¬ a = b by omega]
theorem cmp_lt (a b : Int) : (some (compare a b) == some Ordering.lt) = decide (a < b) := by
  rcases Int.lt_trichotomy a b with h | h | h
  · simp [compare, compareOfLessAndEq, h]
  · subst h; simp
  · simp [compare, compareOfLessAndEq, show ¬ a < b by omega, show ¬ a = b by omega]
theorem cmp_gt (a b : Int) : (some (compare a b) == some Ordering.gt) = decide (b < a) := by
  rcases Int.lt_trichotomy a b with h | h | h
  · simp [compare, compareOfLessAndEq, h, show ¬ b < a by omega]
  · subst h; simp
  · simp [compare, compareOfLessAndEq, show ¬ a < b by omega, show ¬ a = b by omega, h]
section
variable {x y : Nat}
theorem s_eq (hx : Ieee.single.fin x) (hy : Ieee.single.fin y) : (FloatKind.f32.format.order x y == some .eq) = decide (Ieee.single.val x = Ieee.single.val y) := by
  rw [show FloatKind.f32.format = Ieee.single from rfl, Ieee.single.order_fin hx hy, cmp_eq]
theorem s_lt (hx : Ieee.single.fin x) (hy : Ieee.single.fin y) : (FloatKind.f32.format.order x y == some .lt) = decide (Ieee.single.val x < Ieee.single.val y) := by
  rw [show FloatKind.f32.format = Ieee.single from rfl, Ieee.single.order_fin hx hy, cmp_lt]
theorem s_gt (hx : Ieee.single.fin x) (hy : Ieee.single.fin y) : (FloatKind.f32.format.order x y == some .gt) = decide (Ieee.single.val y < Ieee.single.val x) := by
  rw [show FloatKind.f32.format = Ieee.single from rfl, Ieee.single.order_fin hx hy, cmp_gt]
theorem d_eq (hx : Ieee.double.fin x) (hy : Ieee.double.fin y) : (FloatKind.f64.format.order x y == some .eq) = decide (Ieee.double.val x = Ieee.double.val y) := by
  rw [show FloatKind.f64.format = Ieee.double from rfl, Ieee.double.order_fin hx hy, cmp_eq]
theorem d_lt (hx : Ieee.double.fin x) (hy : Ieee.double.fin y) : (FloatKind.f64.format.order x y == some .lt) = decide (Ieee.double.val x < Ieee.double.val y) := by
  rw [show FloatKind.f64.format = Ieee.double from rfl, Ieee.double.order_fin hx hy, cmp_lt]
theorem d_gt (hx : Ieee.double.fin x) (hy : Ieee.double.fin y) : (FloatKind.f64.format.order x y == some .gt) = decide (Ieee.double.val y < Ieee.double.val x) := by
  rw [show FloatKind.f64.format = Ieee.double from rfl, Ieee.double.order_fin hx hy, cmp_gt]
end
theorem s_fin0 : Ieee.single.fin 0 := by unfold Ieee.Format.fin; decide +kernel
theorem s_val0 : Ieee.single.val 0 = 0 := by decide +kernel
theorem d_fin0 : Ieee.double.fin 0 := by unfold Ieee.Format.fin; decide +kernel
theorem d_val0 : Ieee.double.val 0 = 0 := by decide +kernel

/-- Comparison with an infinity, sign by sign. -/
theorem order_inf_left {f : Ieee.Format} {s : Bool} {x y : Nat} (hx : f.read x = .infinity s) (hy : f.fin y) : f.order x y = some (if s then .lt else .gt) := by
  obtain ⟨m, i, h1, _⟩ := f.read_fin hy
  unfold Ieee.Format.order
  rw [hx, h1]; rfl
theorem order_inf_right {f : Ieee.Format} {s : Bool} {x y : Nat} (hx : f.fin x) (hy : f.read y = .infinity s) : f.order x y = some (if s then .gt else .lt) := by
  obtain ⟨m, i, h1, _⟩ := f.read_fin hx
  unfold Ieee.Format.order
  rw [hy, h1]; rfl

/-! ### x - x == 0: x is finite -/
def finS (x : Nat) : Bool := FloatKind.f32.format.order (fop .sub .f32 x x) 0 == some .eq
theorem finS_eq (x : Nat) : finS x = decide (Ieee.single.rung x < Ieee.single.infRung) := by
  unfold finS
  rcases Nat.lt_trichotomy (Ieee.single.rung x) Ieee.single.infRung with h | h | h
  · have hx : Ieee.single.fin x := h
    rw [decide_eq_true h]
    have e : fop .sub .f32 x x = Ieee.single.put (Ieee.single.sgn x && !Ieee.single.sgn x) 0 := by
      unfold fop floatBits
      simp only [show FloatKind.f32.format = Ieee.single from rfl, Ieee.single.sub_fin hx hx, Option.getD_some, Ieee.Format.ofSum, Int.sub_self, if_true, Int.natAbs_zero]
    have r0 : Ieee.single.Rep 0 := ⟨⟨0, 0, rfl, by decide +kernel⟩, Nat.two_pow_pos _⟩
    rw [e, s_eq (Ieee.single.put_exact s_e r0).1 s_fin0, Ieee.single.val_put s_e r0, s_val0]
    cases (Ieee.single.sgn x && !Ieee.single.sgn x) <;> simp
  · rw [decide_eq_false (by omega)]
    have e : fop .sub .f32 x x = qn .f32 := by
      unfold fop floatBits
      have hr : FloatKind.f32.format.read x = .infinity (Ieee.single.sgn x) := Ieee.single.read_inf h (by decide)
      simp only [Ieee.Format.sub, hr, Ieee.Datum.opposite, Ieee.Datum.sum]
      cases Ieee.single.sgn x <;> simp
    rw [e, order_nan_left (isN_qn _)]; rfl
  · rw [decide_eq_false (by omega)]
    have e : fop .sub .f32 x x = qn .f32 := by
      unfold fop
      rw [floatBits_nan_left (by rw [isN_s]; exact decide_eq_true h)]; rfl
    rw [e, order_nan_left (isN_qn _)]; rfl

/-! ### The absolute value as the reference has it -/
def negS (x : Nat) : Nat := Op.negFloat .f32 x
def absS (x : Nat) : Nat :=
  if FloatKind.f32.format.order x 0 == some .lt then negS x
  else if FloatKind.f32.format.order x 0 == some .eq then 0 else x

theorem neg_word {x : Nat} (h : x < 4294967296) : negS x = if Ieee.single.sgn x then Ieee.single.rung x else Ieee.single.rung x + 2147483648 := by
  have e1 : negS x = x ^^^ 2147483648 := rfl
  have e2 : Ieee.single.sgn x = (x / 2147483648 % 2 == 1) := by unfold Ieee.Format.sgn; rw [s_sw]
  have e3 : Ieee.single.rung x = x % 2147483648 := by unfold Ieee.Format.rung; rw [s_sw]
  have hx : x = x % 2147483648 + 2147483648 * (x / 2147483648) := (Nat.mod_add_div ..).symm
  have hb : x / 2147483648 = 0 ∨ x / 2147483648 = 1 := by omega
  have hr := Nat.mod_lt x (show 0 < 2147483648 by decide)
  rw [e1, e2, e3]
  generalize x % 2147483648 = r at *
  have hxor : ∀ r, r < 2 ^ 31 → r ^^^ 2 ^ 31 = r + 2 ^ 31 := by
    intro r hr
    have h1 : r + 2 ^ 31 = 2 ^ 31 ||| r := by
      have := Nat.two_pow_add_eq_or_of_lt hr 1
      simpa [Nat.add_comm] using this
    rw [h1]
    apply Nat.eq_of_testBit_eq
    intro i
    rw [Nat.testBit_xor, Nat.testBit_or, Nat.testBit_two_pow]
    by_cases hi : 31 = i
    · subst hi; simp [Nat.testBit_lt_two_pow hr]
    · simp [hi]
  rcases hb with hb | hb
  · rw [hb] at hx ⊢
    have : x = r := by omega
    subst this
    exact hxor x hr
  · rw [hb] at hx ⊢
    have h2 : x = r ^^^ 2 ^ 31 := by rw [hxor r hr]; omega
    have h3 : (r ^^^ 2 ^ 31) ^^^ 2147483648 = r := by rw [Nat.xor_assoc]; simp
    rw [h2, h3]; rfl
end Go.Proofs.Ytmfgffgfggkgcaa
