/-
  FlushSmall of the program and of the reference: one plain function of the word; and the walks of the laws on IsSubnormal and FlushSmall. The word fits its kind.
-/
import Derived.Test.YtdkodeelddjimaaSubW
import Derived.Test.YtdkodeelddjimaaSame
namespace Go.Proofs.Ytdkodeelddjimaa
open Go.RowKit

def flushB (x : Nat) : Nat := if isSubB x then x / 2147483648 * 2147483648 else x

theorem isSubB_eq {x : Nat} (h : x < 4294967296) : isSubS x = isSubB x := isSubS_eq h

def FlushAns (x : Nat) (w : World) (e : Ending) (w' : World) : Prop := ∃ r n, e = .returned (.float .f32 r) ∧ FE .f32 r (flushB x) ∧ w' = w.drewN n
theorem flush_spec (x : Nat) (h : x < 4294967296) (w : World) : Calls Try.prog 24 #[.float .f32 x] w (FlushAns x w) := by
  cases hs : isSubS x with
  | true =>
    have hf : x % 2147483648 < 8388608 := by rw [isSubS_eq h] at hs; simp at hs; omega
    have hm := Lib.hid (flush_mul h hf)
    have e : flushB x = x / 2147483648 * 2147483648 := by unfold flushB; rw [← isSubB_eq h, if_pos hs]
    have E := Lib.hid e
    clear e hf h
    go_enter Try.func24, Try.ntmps24
    go_wp2_with (go_at_call 17; refine (isSub_spec _ _).mono ?_; rintro e w' ⟨n, rfl, rfl⟩)
    go_ret
    exact ⟨_, _, rfl, by rw [E.out]; exact fval_to (.of_eq hm.out), rfl⟩
  | false =>
    have e : flushB x = x := by unfold flushB; rw [← isSubB_eq h, if_neg (by rw [hs]; decide)]
    have E := Lib.hid e
    clear e h
    go_enter Try.func24, Try.ntmps24
    go_wp2_with (go_at_call 17; refine (isSub_spec _ _).mono ?_; rintro e w' ⟨n, rfl, rfl⟩)
    go_ret
    exact ⟨_, _, rfl, by rw [E.out]; exact FE.refl _ _, rfl⟩
theorem flush_impl (x : Nat) (h : x < 4294967296) (w : World) : Calls Try.prog 25 #[.float .f32 x] w fun e w' => e = .returned (.float .f32 (flushB x)) ∧ w = w' := by
  have hb := bits_top x h
  cases hs : isSubB x with
  | true =>
    have e : flushB x = x / 2147483648 * 2147483648 := by unfold flushB; rw [if_pos hs]
    rw [e]; clear e
    generalize x / 2147483648 * 2147483648 = t at *
    go_enter Try.func25, Try.ntmps25
    go_wp2_with (go_at_call 18; refine (isSub_impl _ h _).mono ?_; rintro e w' ⟨rfl, rfl⟩)
    go_ret
    exact ⟨rfl, rfl⟩
  | false =>
    have e : flushB x = x := by unfold flushB; rw [if_neg (by rw [hs]; decide)]
    rw [e]; clear e
    go_enter Try.func25, Try.ntmps25
    go_wp2_with (go_at_call 18; refine (isSub_impl _ h _).mono ?_; rintro e w' ⟨rfl, rfl⟩)
    go_ret
    exact ⟨rfl, rfl⟩
theorem lt_of_wf {x : Nat} (h : (Lit.float .f32 x).wf = true) : x < 4294967296 := by
  simpa [Lit.wf] using h
end Go.Proofs.Ytdkodeelddjimaa
