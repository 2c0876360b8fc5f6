/-
  NextUp, NextDown of the program and of the reference: the word one step on, and true, or 0 and false; and the walks of the laws on them and on FromSteps.
-/
import Derived.Test.YtdkodeelddjimaaFrom
import Derived.Test.YtdkodeelddjimaaBetween
namespace Go.Proofs.Ytdkodeelddjimaa
open Go.RowKit
def nextOk (x : Nat) (by_ : Int) : Bool := finB x && fromOk (stepsA x + by_)
def nextA (x : Nat) (by_ : Int) : Nat := if finB x then fromA (stepsA x + by_) else 0
def NextAns (x : Nat) (by_ : Int) (w : World) (e : Ending) (w' : World) : Prop := ∃ n, e = .returned (.tuple #[.float .f32 (nextA x by_), .bool (nextOk x by_)]) ∧ w' = w.drewN n
theorem stepped_any (x : Nat) (b : Int) (h : x < 4294967296) (hb1 : -1 ≤ b) (hb2 : b ≤ 1) (w : World) : Calls Try.prog 46 #[.float .f32 x, .int .i64 b] w (NextAns x b w) := by
  obtain ⟨b1, b2⟩ := stepsA_bd h
  cases hf : finB x with
  | false =>
    have E := Lib.hid (show nextA x b = 0 ∧ nextOk x b = false by unfold nextA nextOk; rw [hf]; simp)
    go_enter Try.func46, Try.ntmps46
    go_wp2_with (go_at_call 29; refine (stepsOf_impl _ h _).mono ?_; rintro e w' ⟨n, rfl, rfl⟩)
    go_ret2
    exact ⟨_, by rw [E.out.1, E.out.2]; rfl, rfl⟩
  | true =>
    have E := Lib.hid (show nextA x b = fromA (stepsA x + b) ∧ nextOk x b = fromOk (stepsA x + b) by unfold nextA nextOk; rw [hf]; simp)
    go_enter Try.func46, Try.ntmps46
    go_wp2_with (first
      | (go_at_call 29; refine (stepsOf_impl _ h _).mono ?_; rintro e w' ⟨n, rfl, rfl⟩)
      | (go_at_call 27; refine (from_impl _ (by omega) (by omega) _).mono ?_; rintro e w' ⟨n2, rfl, rfl⟩))
    go_ret2
    exact ⟨_, by rw [E.out.1, E.out.2]; rfl, rfl⟩
theorem fnExactFromSteps_walk (a0 : Int) (w0 : (Lit.int .i64 a0).wf = true) (w : World) :
    Calls Try.prog 9 #[.int .i64 a0] w fun e w' => e = .returned (.bool true) ∧ Below w.heap.size w w' := by
  obtain ⟨b1, b2⟩ := bounds64 w0
  go_enter Try.func9, Try.ntmps9
  go_wp2_with (first
    | (go_at_call 26; refine (from_spec _ b1 b2 _).mono ?_; rintro e w' ⟨n, rfl, rfl⟩)
    | (go_at_call 27; refine (from_impl _ b1 b2 _).mono ?_; rintro e w' ⟨n, rfl, rfl⟩)
    | (go_at_call 21; refine (sameFloat_any _ _ _ (wide_both (FE.refl _ _) _ _)).mono ?_; rintro e w' ⟨n2, rfl, rfl⟩))
  go_ret
  exact ⟨rfl, by refine below_drewN ?_ _; exact Below.refl _ _⟩

theorem nextUp_spec (x : Nat) (h : x < 4294967296) (w : World) : Calls Try.prog 34 #[.float .f32 x] w (NextAns x 1 w) := by
  obtain ⟨b1, b2⟩ := stepsA_bd h
  cases hf : finB x with
  | false =>
    have E := Lib.hid (show nextA x 1 = 0 ∧ nextOk x 1 = false by unfold nextA nextOk; rw [hf]; simp)
    go_enter Try.func34, Try.ntmps34
    go_wp2_with (go_at_call 28; refine (stepsOf_spec _ h _).mono ?_; rintro e w' ⟨n, rfl, rfl⟩)
    go_ret2
    exact ⟨_, by rw [E.out.1, E.out.2]; rfl, rfl⟩
  | true =>
    have E := Lib.hid (show nextA x 1 = fromA (stepsA x + 1) ∧ nextOk x 1 = fromOk (stepsA x + 1) by unfold nextA nextOk; rw [hf]; simp)
    go_enter Try.func34, Try.ntmps34
    go_wp2_with (first
      | (go_at_call 28; refine (stepsOf_spec _ h _).mono ?_; rintro e w' ⟨n, rfl, rfl⟩)
      | (go_at_call 26; refine (from_spec _ (by omega) (by omega) _).mono ?_; rintro e w' ⟨n2, rfl, rfl⟩))
    go_ret2
    exact ⟨_, by rw [E.out.1, E.out.2]; rfl, rfl⟩
theorem nextUp_impl (x : Nat) (h : x < 4294967296) (w : World) : Calls Try.prog 35 #[.float .f32 x] w (NextAns x 1 w) := by
  go_enter Try.func35, Try.ntmps35
  go_wp2_with (go_at_call 46; refine (stepped_any _ _ h (by omega) (by omega) _).mono ?_; rintro e w' ⟨n, rfl, rfl⟩)
  go_ret2
  exact ⟨_, rfl, rfl⟩
theorem fnExactNextUp_walk (a0 : Nat) (w0 : (Lit.float .f32 a0).wf = true) (w : World) :
    Calls Try.prog 13 #[.float .f32 a0] w fun e w' => e = .returned (.bool true) ∧ Below w.heap.size w w' := by
  have h := lt_of_wf w0
  go_enter Try.func13, Try.ntmps13
  go_wp2_with (first
    | (go_at_call 34; refine (nextUp_spec _ h _).mono ?_; rintro e w' ⟨n, rfl, rfl⟩)
    | (go_at_call 35; refine (nextUp_impl _ h _).mono ?_; rintro e w' ⟨n, rfl, rfl⟩)
    | (go_at_call 21; refine (sameFloat_any _ _ _ (wide_both (FE.refl _ _) _ _)).mono ?_; rintro e w' ⟨n2, rfl, rfl⟩))
  go_ret
  exact ⟨rfl, by refine below_drewN ?_ _; exact Below.refl _ _⟩

theorem nextDown_spec (x : Nat) (h : x < 4294967296) (w : World) : Calls Try.prog 32 #[.float .f32 x] w (NextAns x (-1) w) := by
  obtain ⟨b1, b2⟩ := stepsA_bd h
  cases hf : finB x with
  | false =>
    have E := Lib.hid (show nextA x (-1) = 0 ∧ nextOk x (-1) = false by unfold nextA nextOk; rw [hf]; simp)
    go_enter Try.func32, Try.ntmps32
    go_wp2_with (go_at_call 28; refine (stepsOf_spec _ h _).mono ?_; rintro e w' ⟨n, rfl, rfl⟩)
    go_ret2
    exact ⟨_, by rw [E.out.1, E.out.2]; rfl, rfl⟩
  | true =>
    have E := Lib.hid (show nextA x (-1) = fromA (stepsA x - 1) ∧ nextOk x (-1) = fromOk (stepsA x - 1) by unfold nextA nextOk; rw [hf]; simp [Int.sub_eq_add_neg])
    go_enter Try.func32, Try.ntmps32
    go_wp2_with (first
      | (go_at_call 28; refine (stepsOf_spec _ h _).mono ?_; rintro e w' ⟨n, rfl, rfl⟩)
      | (go_at_call 26; refine (from_spec _ (by omega) (by omega) _).mono ?_; rintro e w' ⟨n2, rfl, rfl⟩))
    go_ret2
    exact ⟨_, by rw [E.out.1, E.out.2]; rfl, rfl⟩
theorem nextDown_impl (x : Nat) (h : x < 4294967296) (w : World) : Calls Try.prog 33 #[.float .f32 x] w (NextAns x (-1) w) := by
  go_enter Try.func33, Try.ntmps33
  go_wp2_with (go_at_call 46; refine (stepped_any _ _ h (by omega) (by omega) _).mono ?_; rintro e w' ⟨n, rfl, rfl⟩)
  go_ret2
  exact ⟨_, rfl, rfl⟩
theorem fnExactNextDown_walk (a0 : Nat) (w0 : (Lit.float .f32 a0).wf = true) (w : World) :
    Calls Try.prog 12 #[.float .f32 a0] w fun e w' => e = .returned (.bool true) ∧ Below w.heap.size w w' := by
  have h := lt_of_wf w0
  go_enter Try.func12, Try.ntmps12
  go_wp2_with (first
    | (go_at_call 32; refine (nextDown_spec _ h _).mono ?_; rintro e w' ⟨n, rfl, rfl⟩)
    | (go_at_call 33; refine (nextDown_impl _ h _).mono ?_; rintro e w' ⟨n, rfl, rfl⟩)
    | (go_at_call 21; refine (sameFloat_any _ _ _ (wide_both (FE.refl _ _) _ _)).mono ?_; rintro e w' ⟨n2, rfl, rfl⟩))
  go_ret
  exact ⟨rfl, by refine below_drewN ?_ _; exact Below.refl _ _⟩
end Go.Proofs.Ytdkodeelddjimaa
