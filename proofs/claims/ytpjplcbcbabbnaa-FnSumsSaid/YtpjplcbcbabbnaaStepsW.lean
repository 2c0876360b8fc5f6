/-
  StepsOf, FromSteps, of the program and of the reference: the steps of a word, the word of a number of steps. The word, the number fit their kinds.
-/
import Derived.Test.YtpjplcbcbabbnaaAbs
import Derived.Test.YtpjplcbcbabbnaaStepsP
import Derived.LoopTactic
namespace Go.Proofs.Ytpjplcbcbabbnaa
open Go.RowKit

def IntAns (n : Int) (w : World) (e : Ending) (w' : World) : Prop := ∃ m, e = .returned (.int .i64 n) ∧ w' = w.drewN m
set_option maxHeartbeats 400000 in
theorem l1Steps_any (r : Nat) (h : r < 2139095040) (w : World) : Calls Try.prog 31 #[.float .f32 r] w (IntAns r w) := by
  have hm := mOf_lt r
  have ht := tOf_le h
  have hge : 0 < tOf r → 8388608 ≤ mOf r := mOf_ge
  have E := Lib.hid (of_mt r)
  have hw : ∀ w, cval .f32 r .f64 w = dw false (mOf r) (tOf r + 925) := cval_some (wide_mt h)
  generalize mOf r = m at *
  generalize tOf r = t at *
  go_enter Try.func31, Try.ntmps31
  go_wp2
  clear hw
  go_loopw [3, 4] (fun y e wr => ∃ j n : Nat, j ≤ t ∧ y = .float .f64 (dw false m (j + 925)) ∧ e = .int .i64 ((t : Int) - j) ∧ wr = w.drewN n) (fun _ e _ => t - (intOf e).toNat)
  case atStart => exact ⟨t, _, by omega, rfl, by simp, rfl⟩
  case round =>
    obtain ⟨j, n, hj, rfl, rfl, rfl⟩ := hrel
    cases j with
    | succ j =>
      have hb : 8388608 ≤ m := hge (by omega)
      have hd : ∀ w, fval .quo .f64 (dw false m (j + 1 + 925)) 4611686018427387904 w = dw false m (j + 925) := by
        rw [show j + 1 + 925 = j + 925 + 1 by omega]; exact fval_some (dw_half (by omega) (by omega))
      rcases test125_yes (show j ≤ 253 by omega) hm hb with hc | hc
      all_goals
        go_wp2
        go_roundw
        case rel => exact ⟨j, _, by omega, rfl, vint (by omega), rfl⟩
        case measure => simp [intOf]; omega
    | zero =>
      have hc := test125_no hm
      go_wp2
      go_loopw [3, 5] (fun y i wr => ∃ k n : Nat, k ≤ 149 ∧ y = .float .f64 (dw false m (k + 925)) ∧ i = .int .i64 k ∧ wr = w.drewN n) (fun _ i _ => 149 - (intOf i).toNat)
      case atStart => exact ⟨0, _, by omega, rfl, rfl, rfl⟩
      case round =>
        obtain ⟨k, n2, hk, rfl, rfl, rfl⟩ := hrel
        by_cases hlt : (k : Int) < 149
        · have hd : ∀ w, fval .mul .f64 (dw false m (k + 925)) 4611686018427387904 w = dw false m (k + 1 + 925) := by
            rw [show k + 1 + 925 = k + 925 + 1 by omega]; exact fval_some (dw_dbl (by omega) (by omega))
          go_wp2
          go_roundw
          case rel => exact ⟨k + 1, _, by omega, rfl, by go_num, rfl⟩
          case measure => simp [intOf]; omega
        · obtain rfl : k = 149 := by omega
          have hi : ∀ w, (convert 27 3 (.float .f64 (dw false m (149 + 925)))).run Try.prog w = .ok (.int .i64 m) w := fun w =>
            run_convert_float_int w 27 3 .f64 .i64 _ _ (by rw [Try.underlying27]; rfl) Try.underlying3 (dw_to_int (by omega))
          go_wp2
          go_ret
          exact ⟨_, ret_int (by have := E.out; omega), rfl⟩
end Go.Proofs.Ytpjplcbcbabbnaa
