/-
  Steps of the program: StepsOf, FromSteps, StepsBetween, NextUp, NextDown. The words fit their kind.
-/
import Derived.Test.YthadnlekadhgpaaDoorFmtI
import Derived.Test.YthadnlekadhgpaaDoorFromS
namespace Go.Proofs.YthadnlekadhgpaaDoor
open Go.RowKit
def stepsA (x : Nat) : Int := if finB x then stepsOf x else 0
def StepsAns (x : Nat) (w : World) (e : Ending) (w' : World) : Prop := ∃ n, e = .returned (.tuple #[.int .i64 (stepsA x), .bool (finB x)]) ∧ w' = w.drewN n

theorem stepsA_bd {x : Nat} (h : x < 4294967296) : -2139095039 ≤ stepsA x ∧ stepsA x ≤ 2139095039 := by
  unfold stepsA finB stepsOf
  split
  · rename_i hf; simp at hf; split <;> omega
  · omega
/-- The widened word of a finite one bears its sign. -/
theorem wide_word {x : Nat} (h : x < 4294967296) (hf : finB x = true) : ∃ b, floatToFloatBits .f32 x .f64 = some b ∧ b < 18446744073709551616 ∧ (9223372036854775808 ≤ b ↔ 2147483648 ≤ x) := by
  have hr : Ieee.single.rung x = x % 2147483648 := by unfold Ieee.Format.rung; rw [s_sw]
  have e2 : Ieee.single.sgn x = (x / 2147483648 % 2 == 1) := by unfold Ieee.Format.sgn; rw [s_sw]
  have hx : Ieee.single.fin x := by unfold Ieee.Format.fin; rw [hr, s_inf]; unfold finB at hf; simpa using hf
  refine ⟨_, widen_fin hx, ?_⟩
  have hp := Ieee.double.put_rung_lt (Ieee.single.units (Ieee.single.rung x) * 2 ^ 925)
  rw [d_sw] at hp
  unfold Ieee.Format.put Ieee.Format.word
  rw [d_sw, e2]
  generalize min (Ieee.double.rnd (Ieee.single.units (Ieee.single.rung x) * 2 ^ 925)) Ieee.double.infRung = q at *
  by_cases hs : x < 2147483648
  · have : x / 2147483648 = 0 := by omega
    rw [this]; simp; omega
  · have : x / 2147483648 = 1 := by omega
    rw [this]; simp; omega
set_option maxHeartbeats 400000 in
theorem signbit_any (b : Nat) (hb : b < 18446744073709551616) (w : World) : Calls Tryd.prog 35 #[.float .f64 b] w fun e w' => e = .returned (.bool (decide (9223372036854775808 ≤ b))) ∧ w = w' := by
  by_cases hs : 9223372036854775808 ≤ b
  · have hw : IntKind.i64.wrap (b : Int) = (b : Int) - 18446744073709551616 := by
      simp only [IntKind.wrap, IntKind.bits, IntKind.signed]; simp; omega
    have ht : decide ((b : Int) - 18446744073709551616 < 0) = true := by simp; omega
    have E := Lib.hid (decide_eq_true hs)
    rw [E.out]
    go_enter Tryd.func35, Tryd.ntmps35
    go_wp2
    go_ret
    exact ⟨by simp_all, rfl⟩
  · have E := Lib.hid (decide_eq_false hs)
    rw [E.out]
    go_enter Tryd.func35, Tryd.ntmps35
    go_wp2
    go_ret
    exact ⟨by simp, rfl⟩

set_option maxHeartbeats 400000 in
theorem stepsOf_impl (x : Nat) (h : x < 4294967296) (w : World) : Calls Tryd.prog 13 #[.float .f32 x] w (StepsAns x w) := by
  cases hf : finB x with
  | false =>
    have E := Lib.hid (show stepsA x = 0 by unfold stepsA; rw [hf]; rfl)
    go_enter Tryd.func13, Tryd.ntmps13
    go_wp2_with (go_at_call 21; refine (isFinite_any _ h _).mono ?_; rintro e w' ⟨rfl, rfl⟩)
    go_ret2
    exact ⟨0, by rw [E.out, hf]; rfl, rfl⟩
  | true =>
    have hb := and_low31 x h
    obtain ⟨b, hw, hb64, hbs⟩ := wide_word h hf
    have hr : x % 2147483648 < 2139095040 := by unfold finB at hf; simpa using hf
    have hc : ∀ w, cval .f32 x .f64 w = b := cval_some hw
    clear hw
    by_cases hx : 2147483648 ≤ x
    · have E := Lib.hid (show stepsA x = -((x % 2147483648 : Nat) : Int) by
        unfold stepsA; rw [hf]; show stepsOf x = _; unfold stepsOf; split <;> omega)
      have hs : decide (9223372036854775808 ≤ b) = true := decide_eq_true (hbs.2 hx)
      have S := Lib.hid hs
      clear hs hbs hx
      generalize x % 2147483648 = r at *
      go_enter Tryd.func13, Tryd.ntmps13
      go_wp2_with (first
        | (go_at_call 21; refine (isFinite_any _ h _).mono ?_; rintro e w' ⟨rfl, rfl⟩)
        | (go_at_call 35; refine (signbit_any _ hb64 _).mono ?_; rintro e w' ⟨rfl, rfl⟩; rw [S.out]))
      go_ret2
      exact ⟨_, by rw [E.out, hf]; simp, rfl⟩
    · have E := Lib.hid (show stepsA x = ((x % 2147483648 : Nat) : Int) by
        unfold stepsA; rw [hf]; show stepsOf x = _; unfold stepsOf; split <;> omega)
      have hs : decide (9223372036854775808 ≤ b) = false := decide_eq_false (fun g => hx (hbs.1 g))
      have S := Lib.hid hs
      clear hs hbs hx
      generalize x % 2147483648 = r at *
      go_enter Tryd.func13, Tryd.ntmps13
      go_wp2_with (first
        | (go_at_call 21; refine (isFinite_any _ h _).mono ?_; rintro e w' ⟨rfl, rfl⟩)
        | (go_at_call 35; refine (signbit_any _ hb64 _).mono ?_; rintro e w' ⟨rfl, rfl⟩; rw [S.out]))
      go_ret2
      exact ⟨_, by rw [E.out, hf]; rfl, rfl⟩
set_option maxHeartbeats 400000 in
theorem from_impl (k : Int) (h1 : -9223372036854775808 ≤ k) (h2 : k ≤ 9223372036854775807) (w : World) : Calls Tryd.prog 14 #[.int .i64 k] w (FromAns k w) := by
  by_cases hlo : k < -2139095039
  · have E := Lib.hid (show fromOk k = false ∧ fromA k = 0 by unfold fromA; rw [show fromOk k = false by unfold fromOk; simp; omega]; simp)
    go_enter Tryd.func14, Tryd.ntmps14
    go_wp2
    go_ret2
    exact ⟨0, by rw [E.out.1, E.out.2]; rfl, rfl⟩
  · by_cases hhi : 2139095039 < k
    · have E := Lib.hid (show fromOk k = false ∧ fromA k = 0 by unfold fromA; rw [show fromOk k = false by unfold fromOk; simp; omega]; simp)
      go_enter Tryd.func14, Tryd.ntmps14
      go_wp2
      go_ret2
      exact ⟨0, by rw [E.out.1, E.out.2]; rfl, rfl⟩
    · have E1 := Lib.hid (show fromOk k = true by unfold fromOk; simp; omega)
      by_cases hn : k < 0
      · have E := Lib.hid (fromA_hi hn (by omega))
        have hneg : Op.negFloat .f32 (-k).toNat = (-k).toNat + 2147483648 := negS_lo (by omega)
        go_enter Tryd.func14, Tryd.ntmps14
        go_wp2
        go_ret2
        exact ⟨0, by rw [E.out, E1.out]; rfl, rfl⟩
      · have E := Lib.hid (fromA_lo (by omega) (by omega : k ≤ 2139095039))
        go_enter Tryd.func14, Tryd.ntmps14
        go_wp2
        go_ret2
        exact ⟨0, by rw [E.out, E1.out]; rfl, rfl⟩
def betweenA (a b : Nat) : Int := if finB a && finB b then stepsA b - stepsA a else 0
def BetweenAns (a b : Nat) (w : World) (e : Ending) (w' : World) : Prop := ∃ n, e = .returned (.tuple #[.int .i64 (betweenA a b), .bool (finB a && finB b)]) ∧ w' = w.drewN n
set_option maxHeartbeats 400000 in
theorem between_impl (a b : Nat) (h1 : a < 4294967296) (h2 : b < 4294967296) (w : World) : Calls Tryd.prog 17 #[.float .f32 a, .float .f32 b] w (BetweenAns a b w) := by
  obtain ⟨a1, a2⟩ := stepsA_bd h1
  obtain ⟨b1, b2⟩ := stepsA_bd h2
  cases ha : finB a <;> cases hb : finB b
  all_goals
    go_enter Tryd.func17, Tryd.ntmps17
    go_wp2_with fail
    refine (stepsOf_impl a h1 _).mono ?_
    rintro e w' ⟨n, rfl, rfl⟩
    go_wp2_with fail
    refine (stepsOf_impl b h2 _).mono ?_
    rintro e w' ⟨n2, rfl, rfl⟩
    go_wp2_with fail
    go_ret2
    refine ⟨_, ?_, rfl⟩
    unfold betweenA
    rw [ha, hb]
    rfl

def nextOk (x : Nat) (by_ : Int) : Bool := finB x && fromOk (stepsA x + by_)
def nextA (x : Nat) (by_ : Int) : Nat := if finB x then fromA (stepsA x + by_) else 0
def NextAns (x : Nat) (by_ : Int) (w : World) (e : Ending) (w' : World) : Prop := ∃ n, e = .returned (.tuple #[.float .f32 (nextA x by_), .bool (nextOk x by_)]) ∧ w' = w.drewN n
theorem stepped_any (x : Nat) (b : Int) (h : x < 4294967296) (hb1 : -1 ≤ b) (hb2 : b ≤ 1) (w : World) : Calls Tryd.prog 36 #[.float .f32 x, .int .i64 b] w (NextAns x b w) := by
  obtain ⟨b1, b2⟩ := stepsA_bd h
  cases hf : finB x with
  | false =>
    have E := Lib.hid (show nextA x b = 0 ∧ nextOk x b = false by unfold nextA nextOk; rw [hf]; simp)
    go_enter Tryd.func36, Tryd.ntmps36
    go_wp2_with (go_at_call 13; refine (stepsOf_impl _ h _).mono ?_; rintro e w' ⟨n, rfl, rfl⟩)
    go_ret2
    exact ⟨_, by rw [E.out.1, E.out.2]; rfl, rfl⟩
  | true =>
    have E := Lib.hid (show nextA x b = fromA (stepsA x + b) ∧ nextOk x b = fromOk (stepsA x + b) by unfold nextA nextOk; rw [hf]; simp)
    go_enter Tryd.func36, Tryd.ntmps36
    go_wp2_with (first
      | (go_at_call 13; refine (stepsOf_impl _ h _).mono ?_; rintro e w' ⟨n, rfl, rfl⟩)
      | (go_at_call 14; refine (from_impl _ (by omega) (by omega) _).mono ?_; rintro e w' ⟨n2, rfl, rfl⟩))
    go_ret2
    exact ⟨_, by rw [E.out.1, E.out.2]; rfl, rfl⟩
theorem nextUp_impl (x : Nat) (h : x < 4294967296) (w : World) : Calls Tryd.prog 15 #[.float .f32 x] w (NextAns x 1 w) := by
  go_enter Tryd.func15, Tryd.ntmps15
  go_wp2_with (go_at_call 36; refine (stepped_any _ _ h (by omega) (by omega) _).mono ?_; rintro e w' ⟨n, rfl, rfl⟩)
  go_ret2
  exact ⟨_, rfl, rfl⟩
theorem nextDown_impl (x : Nat) (h : x < 4294967296) (w : World) : Calls Tryd.prog 16 #[.float .f32 x] w (NextAns x (-1) w) := by
  go_enter Tryd.func16, Tryd.ntmps16
  go_wp2_with (go_at_call 36; refine (stepped_any _ _ h (by omega) (by omega) _).mono ?_; rintro e w' ⟨n, rfl, rfl⟩)
  go_ret2
  exact ⟨_, rfl, rfl⟩
end Go.Proofs.YthadnlekadhgpaaDoor
