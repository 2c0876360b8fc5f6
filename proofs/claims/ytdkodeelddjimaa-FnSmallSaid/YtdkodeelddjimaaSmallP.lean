/-
  The plain laws behind FnSmall: what is flushed is not subnormal and is not flushed again; a finite number of 2^-125 or more loses no half; halves of halves. No program in sight.
-/
import Derived.Test.YtdkodeelddjimaaStepsP
import Derived.Test.YtdkodeelddjimaaFlushW
import Derived.Test.YtdkodeelddjimaaHalf
import Derived.Test.YtdkodeelddjimaaHalve
namespace Go.Proofs.Ytdkodeelddjimaa
open Go

theorem flush_not_sub (x : Nat) : isSubB (flushB x) = false := by
  unfold flushB
  split
  · unfold isSubB
    have : x / 2147483648 * 2147483648 % 2147483648 = 0 := Nat.mul_mod_left _ _
    rw [this]; simp
  · rename_i hs; simpa using hs
theorem flush_flush (x : Nat) : flushB (flushB x) = flushB x := by
  have e : ∀ y, isSubB y = false → flushB y = y := fun y hy => by unfold flushB; rw [hy]; rfl
  exact e _ (flush_not_sub x)
theorem flush_lt (x : Nat) (h : x < 4294967296) : flushB x < 4294967296 := by
  unfold flushB; split <;> omega
theorem rung_mod (x : Nat) : Ieee.single.rung x = x % 2147483648 := by unfold Ieee.Format.rung; rw [s_sw]
theorem isN_flush (x : Nat) : isN .f32 (flushB x) = isN .f32 x := by
  unfold flushB
  split
  · rename_i hs
    unfold isSubB at hs
    simp at hs
    rw [isN_s, isN_s, rung_mod, rung_mod, s_inf, Nat.mul_mod_left]
    apply decide_eq_decide.2
    omega
  · rfl
theorem nan_not_sub {x : Nat} (h : isN .f32 x = true) : isSubB x = false := by
  rw [isN_s, rung_mod, s_inf] at h
  have h := of_decide_eq_true h
  unfold isSubB
  simp; omega
theorem isN_neg {x : Nat} (hx : x < 4294967296) (h : isN .f32 x = true) : isN .f32 (Op.negFloat .f32 x) = true := by
  have e := neg_word hx
  unfold negS at e
  rw [e, isN_s] 
  rw [isN_s] at h
  have h := of_decide_eq_true h
  have hr : Ieee.single.rung (if Ieee.single.sgn x then Ieee.single.rung x else Ieee.single.rung x + 2147483648) = Ieee.single.rung x := by
    simp only [rung_mod]; split <;> omega
  rw [hr]; exact decide_eq_true h

theorem word_split {x : Nat} (hx : x < 4294967296) : Ieee.single.word (Ieee.single.sgn x) (Ieee.single.rung x) = x := by
  unfold Ieee.Format.word Ieee.Format.sgn Ieee.Format.rung
  rw [s_sw]
  by_cases hb : x < 2147483648
  · have : x / 2147483648 = 0 := by omega
    rw [this]; simp; omega
  · have : x / 2147483648 = 1 := by omega
    rw [this]; simp; omega

/-- A finite number of 2^24 units or more keeps its half. -/
theorem keeps_half {x : Nat} (hx : x < 4294967296) (hf : Ieee.single.fin x) (hb : 16777216 ≤ Ieee.single.units (Ieee.single.rung x)) : losesHalf x = false := by
  obtain ⟨⟨m, j, h1, h2⟩, h3⟩ := Ieee.single.units_rep s_e hf
  rw [s_b] at h2
  have hj : j ≠ 0 := by intro h; subst h; simp at h1; omega
  obtain ⟨k, rfl⟩ : ∃ k, j = k + 1 := ⟨j - 1, by omega⟩
  have hu : Ieee.single.units (Ieee.single.rung x) = 2 * (m * 2 ^ k) := by rw [h1, Nat.pow_succ, Nat.mul_comm 2, Nat.mul_assoc]
  have hr : Ieee.single.Rep (m * 2 ^ k) := ⟨⟨m, k, rfl, by rw [s_b]; exact h2⟩, by omega⟩
  have d1 : floatBits .quo .f32 x 1073741824 = some (Ieee.single.put (Ieee.single.sgn x) (m * 2 ^ k)) := Ieee.single.div_two hf s_two hu
  have p := Ieee.single.put_exact (s := Ieee.single.sgn x) s_e hr
  have d2 : floatBits .mul .f32 (Ieee.single.put (Ieee.single.sgn x) (m * 2 ^ k)) 1073741824 = some x := by
    show Ieee.single.mul _ _ = _
    rw [Ieee.single.mul_two p.1 s_two, Ieee.single.sgn_put, p.2, ← hu, Ieee.single.put_units hf, word_split hx]
  unfold losesHalf
  rw [fop_some d1, fop_some d2]
  have hn : isN .f32 x = false := by
    have hf' : Ieee.single.rung x < Ieee.single.infRung := hf
    rw [isN_s]; exact decide_eq_false (by omega)
  rw [order_self hn]; rfl
theorem bound24 : Ieee.single.fin 16777216 ∧ Ieee.single.val 16777216 = 16777216 := by
  constructor
  · unfold Ieee.Format.fin; decide +kernel
  · decide +kernel
theorem sgn_neg {x : Nat} (hx : x < 4294967296) : Ieee.single.rung (Op.negFloat .f32 x) = Ieee.single.rung x := by
  have e := neg_word hx
  unfold negS at e
  rw [e]
  simp only [rung_mod]; split <;> omega
/-- What FnSmall asks of losing a half. -/
theorem small_half {x : Nat} (hx : x < 4294967296) (hf : finS x = true) (hl : losesHalf x = true) :
    FloatKind.f32.format.order x 16777216 = some .lt ∧ FloatKind.f32.format.order (Op.negFloat .f32 x) 16777216 = some .lt := by
  rw [finS_eq] at hf
  have hfin' : Ieee.single.rung x < Ieee.single.infRung := of_decide_eq_true hf
  have hfin : Ieee.single.fin x := hfin'
  have hfin2 : Ieee.single.fin (Op.negFloat .f32 x) := by unfold Ieee.Format.fin; rw [sgn_neg hx]; exact hfin
  have hu : Ieee.single.units (Ieee.single.rung x) < 16777216 := by
    by_cases h : 16777216 ≤ Ieee.single.units (Ieee.single.rung x)
    · rw [keeps_half hx hfin h] at hl; cases hl
    · omega
  have v1 := Ieee.single.val_natAbs x
  have v2 := Ieee.single.val_natAbs (Op.negFloat .f32 x)
  rw [sgn_neg hx] at v2
  have key : ∀ y, Ieee.single.fin y → (Ieee.single.val y).natAbs < 16777216 → FloatKind.f32.format.order y 16777216 = some .lt := by
    intro y hy hv
    rw [show FloatKind.f32.format = Ieee.single from rfl, Ieee.single.order_fin hy bound24.1, bound24.2]
    congr 1
    simp [compare, compareOfLessAndEq]
    omega
  exact ⟨key x hfin (by omega), key _ hfin2 (by omega)⟩

theorem halve_FE {x y : Nat} (h : FE .f32 x y) : ∀ k, FE .f32 (halve x k) (halve y k)
  | 0 => h
  | k + 1 => by
    unfold halve
    exact .inl (fop_FE (halve_FE h k) (FE.refl _ _))
theorem halve_halve (x a : Nat) : ∀ b, halve (halve x a) b = halve x (a + b)
  | 0 => rfl
  | b + 1 => by
    show fop .quo .f32 (halve (halve x a) b) 1073741824 = fop .quo .f32 (halve x (a + b)) 1073741824
    rw [halve_halve x a b]
end Go.Proofs.Ytdkodeelddjimaa
