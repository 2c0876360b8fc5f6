/-
  IsSubnormal, FlushSmall and the reference's absolute value: what each answers, as a plain function of the word. The word fits its kind.
-/
import Derived.Test.YtdkodeelddjimaaBits
import Derived.Test.YtdkodeelddjimaaSub
import Derived.Laws.BitsAllLaws
import Derived.Lib.Hide
namespace Go.Proofs.Ytdkodeelddjimaa
open Go.RowKit

theorem bits_low (x : Nat) (h : x < 4294967296) : bits BinOp.and IntKind.u32 (x : Int) 2147483647 = ((x % 2147483648 : Nat) : Int) := by
  rw [show (2147483647 : Int) = ((2147483647 : Nat) : Int) from rfl, u32_and_nat x 2147483647 h (by decide)]
  congr 1
  exact Nat.and_two_pow_sub_one_eq_mod x 31
theorem bits_top (x : Nat) (h : x < 4294967296) : bits BinOp.and IntKind.u32 (x : Int) 2147483648 = ((x / 2147483648 * 2147483648 : Nat) : Int) := by
  rw [show (2147483648 : Int) = ((2147483648 : Nat) : Int) from rfl, u32_and_nat x 2147483648 h (by decide)]
  congr 1
  apply Nat.eq_of_testBit_eq
  intro i
  have e1 : (2147483648 : Nat) = 2 ^ 31 := rfl
  rw [e1, Nat.testBit_and, Nat.testBit_two_pow, ← Nat.shiftRight_eq_div_pow, ← Nat.shiftLeft_eq, Nat.testBit_shiftLeft, Nat.testBit_shiftRight]
  by_cases hi : 31 = i
  · subst hi; simp
  · by_cases h2 : 31 ≤ i
    · have hx : x < 2 ^ i := Nat.lt_of_lt_of_le h (by rw [show 4294967296 = 2 ^ 32 from rfl]; exact Nat.pow_le_pow_right (by decide) (by omega))
      have : 31 + (i - 31) = i := by omega
      simp [hi, this, Nat.testBit_lt_two_pow hx]
    · simp [hi, h2]

theorem l1Abs_any (x : Nat) (w : World) : Calls Try.prog 38 #[.float .f32 x] w fun e w' => e = .returned (.float .f32 (absS x)) ∧ w = w' := by
  have hu : absS x = absS x := rfl
  unfold absS at hu
  cases h1 : (FloatKind.f32.format.order x 0 == some .lt) with
  | true =>
    have e : absS x = negS x := by unfold absS; rw [if_pos h1]
    rw [e]; clear e hu
    go_enter Try.func38, Try.ntmps38
    go_wp2
    go_ret
    exact ⟨rfl, rfl⟩
  | false =>
    cases h2 : (FloatKind.f32.format.order x 0 == some .eq) with
    | true =>
      have e : absS x = 0 := by unfold absS; rw [if_neg (by rw [h1]; decide), if_pos h2]
      rw [e]; clear e hu
      go_enter Try.func38, Try.ntmps38
      go_wp2
      go_ret
      exact ⟨rfl, rfl⟩
    | false =>
      have e : absS x = x := by unfold absS; rw [if_neg (by rw [h1]; decide), if_neg (by rw [h2]; decide)]
      rw [e]; clear e hu
      go_enter Try.func38, Try.ntmps38
      go_wp2
      go_ret
      exact ⟨rfl, rfl⟩

theorem isSub_spec (x : Nat) (w : World) : Calls Try.prog 17 #[.float .f32 x] w fun e w' => ∃ n, e = .returned (.bool (isSubS x)) ∧ w' = w.drewN n := by
  cases h1 : (FloatKind.f32.format.order x 0 != some .eq) with
  | true =>
    have e : isSubS x = (FloatKind.f64.format.order (cop .f32 (absS x) .f64) 4039728865751334912 == some .lt) := by unfold isSubS; rw [h1]; rfl
    rw [e]; clear e
    go_enter Try.func17, Try.ntmps17
    go_wp2_with (go_at_call 38; refine (l1Abs_any _ _).mono ?_; rintro e w' ⟨rfl, rfl⟩)
    go_ret
    exact ⟨_, rfl, rfl⟩
  | false =>
    have e : isSubS x = false := by unfold isSubS; rw [h1]; rfl
    rw [e]; clear e
    go_enter Try.func17, Try.ntmps17
    go_wp2_with (go_at_call 38; refine (l1Abs_any _ _).mono ?_; rintro e w' ⟨rfl, rfl⟩)
    go_ret
    exact ⟨0, rfl, rfl⟩
def isSubB (x : Nat) : Bool := decide (0 < x % 2147483648) && decide (x % 2147483648 < 8388608)
theorem isSub_impl (x : Nat) (h : x < 4294967296) (w : World) : Calls Try.prog 18 #[.float .f32 x] w fun e w' => e = .returned (.bool (isSubB x)) ∧ w = w' := by
  have hb := bits_low x h
  by_cases h0 : 0 < x % 2147483648
  · have e : isSubB x = decide (x % 2147483648 < 8388608) := by unfold isSubB; rw [decide_eq_true h0]; rfl
    rw [e]; clear e
    generalize x % 2147483648 = r at *
    have H : decide ((r : Int) < 8388608) = decide (r < 8388608) := by apply decide_eq_decide.2; omega
    have H' := Lib.hid H
    clear H
    go_enter Try.func18, Try.ntmps18
    go_wp2
    go_ret
    exact ⟨by rw [← H'.out]; rfl, rfl⟩
  · have e : isSubB x = false := by unfold isSubB; rw [decide_eq_false h0]; rfl
    rw [e]; clear e
    generalize x % 2147483648 = r at *
    go_enter Try.func18, Try.ntmps18
    go_wp2
    go_ret
    exact ⟨rfl, rfl⟩
end Go.Proofs.Ytdkodeelddjimaa
