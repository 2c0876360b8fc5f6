/-
  HalveSingle of the program and of the reference: both halve the word the same number of times; and the walk of the law on it. The count fits its kind.
-/
import Derived.Test.YtdkodeelddjimaaSame
import Derived.Test.YtdkodeelddjimaaSub
import Derived.LoopTactic
import Derived.Lib.Hide
namespace Go.Proofs.Ytdkodeelddjimaa
open Go.RowKit

/-- x halved k times. -/
def halve (x : Nat) : Nat → Nat
  | 0 => x
  | k + 1 => fop .quo .f32 (halve x k) 1073741824
/-- How many times: 0 to 400. -/
def times (n : Int) : Nat := (min n 400).toNat
theorem halve_step {x r : Nat} {k : Nat} (h : FE .f32 r (halve x k)) (w : World) : FE .f32 (fval .quo .f32 r 1073741824 w) (halve x (k + 1)) :=
  fval_FE h (FE.refl _ _) w
def HalveAns (x : Nat) (n : Int) (w : World) (e : Ending) (w' : World) : Prop := ∃ r m, e = .returned (.float .f32 r) ∧ FE .f32 r (halve x (times n)) ∧ w' = w.drewN m

set_option maxHeartbeats 400000 in
theorem halve_spec (x : Nat) (n : Int) (w : World) (h1 : -9223372036854775808 ≤ n) (h2 : n ≤ 9223372036854775807) : Calls Try.prog 22 #[.float .f32 x, .int .i64 n] w (HalveAns x n w) := by
  go_enter Try.func22, Try.ntmps22
  go_wp2
  go_loopw [0, 5] (fun r i wr => ∃ k v m : Nat, (k : Int) ≤ 400 ∧ ((k : Int) ≤ n ∨ k = 0) ∧ i = .int .i64 k ∧ r = .float .f32 v ∧ FE .f32 v (halve x k) ∧ wr = w.drewN m) (fun _ i _ => 400 - (intOf i).toNat)
  case atStart => exact ⟨0, x, 0, by omega, .inr rfl, rfl, rfl, FE.refl _ _, rfl⟩
  case round =>
    obtain ⟨k, v, m, hk, hn, rfl, rfl, hv, rfl⟩ := hrel
    by_cases ht : (k : Int) < n
    · by_cases h4 : (k : Int) < 400
      · go_wp2
        go_roundw
        case rel => exact ⟨k + 1, _, _, by omega, .inl (by omega), by go_num, rfl, halve_step hv _, rfl⟩
        case measure => simp [intOf]; omega
      · go_wp2
        go_ret
        have e : times n = k := by unfold times; omega
        exact ⟨_, _, rfl, by rw [e]; exact hv, rfl⟩
    · go_wp2
      go_ret
      have e : times n = k := by unfold times; omega
      exact ⟨_, _, rfl, by rw [e]; exact hv, rfl⟩

set_option maxHeartbeats 400000 in
theorem halve_impl (x : Nat) (n : Int) (w : World) (h1 : -9223372036854775808 ≤ n) (h2 : n ≤ 9223372036854775807) : Calls Try.prog 23 #[.float .f32 x, .int .i64 n] w (HalveAns x n w) := by
  rcases (show n ≤ 0 ∨ (0 < n ∧ n < 400) ∨ 400 ≤ n by omega) with hc | hc | hc
  · have e : times n = 0 := by unfold times; omega
    have E := Lib.hid e
    clear e
    go_enter Try.func23, Try.ntmps23
    go_wp2
    go_loopw [0, 8] (fun r i wr => i = .int .i64 0 ∧ r = .float .f32 x ∧ wr = w) (fun _ i _ => 400 - (intOf i).toNat)
    case atStart => exact ⟨rfl, rfl, rfl⟩
    case round =>
      obtain ⟨rfl, rfl, rfl⟩ := hrel
      go_wp2
      go_ret
      exact ⟨_, 0, rfl, by rw [E.out]; exact FE.refl _ _, rfl⟩
  · obtain ⟨c1, c2⟩ := hc
    go_enter Try.func23, Try.ntmps23
    go_wp2
    go_loopw [0, 8] (fun r i wr => ∃ k v m : Nat, (k : Int) ≤ n ∧ i = .int .i64 k ∧ r = .float .f32 v ∧ FE .f32 v (halve x k) ∧ wr = w.drewN m) (fun _ i _ => 400 - (intOf i).toNat)
    case atStart => exact ⟨0, x, 0, by omega, rfl, rfl, FE.refl _ _, rfl⟩
    case round =>
      obtain ⟨k, v, m, hk, rfl, rfl, hv, rfl⟩ := hrel
      by_cases ht : (k : Int) < n
      · go_wp2
        go_roundw
        case rel => exact ⟨k + 1, _, _, by omega, by go_num, rfl, halve_step hv _, rfl⟩
        case measure => simp [intOf]; omega
      · go_wp2
        go_ret
        have e : times n = k := by unfold times; omega
        exact ⟨_, _, rfl, by rw [e]; exact hv, rfl⟩
  · have e : times n = 400 := by unfold times; omega
    have E := Lib.hid e
    clear e
    go_enter Try.func23, Try.ntmps23
    go_wp2
    go_loopw [0, 8] (fun r i wr => ∃ k v m : Nat, (k : Int) ≤ 400 ∧ i = .int .i64 k ∧ r = .float .f32 v ∧ FE .f32 v (halve x k) ∧ wr = w.drewN m) (fun _ i _ => 400 - (intOf i).toNat)
    case atStart => exact ⟨0, x, 0, by omega, rfl, rfl, FE.refl _ _, rfl⟩
    case round =>
      obtain ⟨k, v, m, hk, rfl, rfl, hv, rfl⟩ := hrel
      by_cases ht : (k : Int) < 400
      · go_wp2
        go_roundw
        case rel => exact ⟨k + 1, _, _, by omega, by go_num, rfl, halve_step hv _, rfl⟩
        case measure => simp [intOf]; omega
      · go_wp2
        go_ret
        have e : k = 400 := by omega
        exact ⟨_, _, rfl, by rw [E.out, ← e]; exact hv, rfl⟩
end Go.Proofs.Ytdkodeelddjimaa
