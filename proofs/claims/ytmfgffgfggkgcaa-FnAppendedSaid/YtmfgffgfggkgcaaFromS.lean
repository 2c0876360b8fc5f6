/-
  FromSteps of the reference: the word of a number of steps and true, or 0 and false. The number fits its kind.
-/
import Derived.Test.YtmfgffgfggkgcaaRows
import Derived.Test.YtmfgffgfggkgcaaStepsP
import Derived.WalkKit
import Derived.WalkSpells
import Derived.WalkLawsBesides
import Derived.LoopTactic
import Derived.Lib.Hide
namespace Go.Proofs.Ytmfgffgfggkgcaa
open Go.RowKit

def fromOk (k : Int) : Bool := decide (-2139095039 ≤ k) && decide (k ≤ 2139095039)
def fromA (k : Int) : Nat := if fromOk k then wordOf k else 0
def FromAns (k : Int) (w : World) (e : Ending) (w' : World) : Prop := ∃ n, e = .returned (.tuple #[.float .f32 (fromA k), .bool (fromOk k)]) ∧ w' = w.drewN n

def inB (x a b : Int) : Bool := decide (a ≤ x) && decide (x ≤ b)
theorem l1In_any (x a b : Int) (w : World) : Calls Try.prog 18 #[.int .i64 x, .int .i64 a, .int .i64 b] w fun e w' => e = .returned (.bool (inB x a b)) ∧ w = w' := by
  by_cases h1 : a ≤ x
  · by_cases h2 : x ≤ b
    · have H := Lib.hid (show inB x a b = true by simp [inB, h1, h2])
      go_enter Try.func18, Try.ntmps18
      go_wp2
      go_ret
      exact ⟨by rw [H.out]; rfl, rfl⟩
    · have H := Lib.hid (show inB x a b = false by simp [inB, h2])
      go_enter Try.func18, Try.ntmps18
      go_wp2
      go_ret
      exact ⟨by rw [H.out]; rfl, rfl⟩
  · have H := Lib.hid (show inB x a b = false by simp [inB, h1])
    go_enter Try.func18, Try.ntmps18
    go_wp2
    go_ret
    exact ⟨by rw [H.out]; rfl, rfl⟩

theorem narrow_mt {s : Bool} {r : Nat} (h : r < 2139095040) : floatToFloatBits .f64 (dw s (mOf r) (tOf r + 925)) .f32 = some (if s then r + 2147483648 else r) := by
  have hm := mOf_lt r
  have ht := tOf_le h
  rw [dw_narrow (by omega) (by omega) (rep_mt h), put_mt s h]
theorem fromA_lo {k : Int} (h0 : 0 ≤ k) (h : k ≤ 2139095039) : fromA k = k.toNat := by
  unfold fromA fromOk wordOf; rw [if_pos (by simp; omega), if_neg (by omega)]; omega
theorem fromA_hi {k : Int} (h0 : k < 0) (h : -2139095039 ≤ k) : fromA k = (-k).toNat + 2147483648 := by
  unfold fromA fromOk wordOf; rw [if_pos (by simp; omega), if_pos (by omega)]; omega
theorem negS_lo {r : Nat} (h : r < 2147483648) : Op.negFloat .f32 r = r + 2147483648 := by
  have := neg_of_word .f32 false (r := r) (by show r < Ieee.single.signWeight; rw [s_sw]; exact h)
  have e : FloatKind.f32.format.signWeight = 2147483648 := s_sw
  simpa [Ieee.Format.word, e, Nat.add_comm] using this

set_option maxHeartbeats 1000000 in
theorem from_spec_pos (r : Nat) (hrb : r < 2139095040) (w : World) : Calls Try.prog 57 #[.int .i64 (r : Int)] w (FromAns (r : Int) w) := by
  have E1 := Lib.hid (show fromOk (r : Int) = true by unfold fromOk; simp; omega)
  have E := Lib.hid (show fromA (r : Int) = r by rw [fromA_lo (by omega) (by omega)]; omega)
  have hin := Lib.hid (show inB (r : Int) (-2139095039) 2139095039 = true by unfold inB; simp; omega)
  have hu := Lib.hid (fun n e h1 h2 h3 => mt_unique (r := r) (n := n) (e := e) h1 h2 h3)
  have hcv := Lib.hid (fun m t h1 h2 => (fun (e1 : m = mOf r) (e2 : t = tOf r) => by rw [e1, e2]; exact cval_some (narrow_mt (s := false) hrb) : m = mOf r → t = tOf r → ∀ w, cval .f64 (dw false m (t + 925)) .f32 w = if false then r + 2147483648 else r) h1 h2)
  go_enter Try.func57, Try.ntmps57
  go_wp2_with (go_at_call 18; refine (l1In_any _ _ _ _).mono ?_; rintro e w' ⟨rfl, rfl⟩; rw [hin.out])
  go_loop [4, 5] (fun n e => ∃ a b : Nat, a + b * 8388608 ≤ r ∧ r ≤ a + b * 8388608 ∧ (b = 0 ∨ 8388608 ≤ a) ∧ n = .int .i64 a ∧ e = .int .i64 b) (fun n _ => (intOf n).toNat)
  case atStart => exact ⟨r, 0, by omega, by omega, .inl rfl, rfl, rfl⟩
  case round =>
    obtain ⟨a, b, hab1, hab2, hb, rfl, rfl⟩ := hrel
    have HB := Lib.hid hb
    clear hb
    have hble : b ≤ 255 := by omega
    have hale : a ≤ 2139095040 := by omega
    by_cases hlt : (16777216 : Int) ≤ (a : Int)
    · go_wp2
      go_round
      case rel => exact ⟨a - 8388608, b + 1, by omega, by omega, .inr (by omega), vint (by omega), by go_num⟩
      case measure => simp [intOf]; omega
    · obtain ⟨e1, e2⟩ := hu.out a b (by omega) (by omega) HB.out
      have hcw := hcv.out a b e1 e2
      have hle : b ≤ 253 := by rw [e2]; exact tOf_le hrb
      have hal : a < 16777216 := by omega
      clear e1 e2 hab1 hab2
      have hdi : floatOfInt .f64 (a : Int) = dw false a 1074 := dw_of_int
      go_wp2
      clear hdi hlt
      go_loopw [6, 7] (fun y i wr => ∃ k j n : Nat, k ≤ 149 ∧ Hid (j + k = 1074) ∧ y = .float .f64 (dw false a j) ∧ i = .int .i64 k ∧ wr = w.drewN n) (fun _ i _ => 149 - (intOf i).toNat)
      case atStart => exact ⟨0, 1074, 0, by omega, Lib.hid (by omega), rfl, rfl, rfl⟩
      case round =>
        obtain ⟨k, j, n2, hk, hj, rfl, rfl, rfl⟩ := hrel
        by_cases hlk : (k : Int) < 149
        · obtain ⟨j, rfl⟩ : ∃ j', j = j' + 1 := ⟨j - 1, by have := hj.out; omega⟩
          have hd : ∀ w, fval .quo .f64 (dw false a (j + 1)) 4611686018427387904 w = dw false a j := fval_some (dw_half (by omega) (by have := hj.out; omega))
          go_wp2
          go_roundw
          case rel => exact ⟨k + 1, j, _, by omega, Lib.hid (by have := hj.out; omega), rfl, by go_num, rfl⟩
          case measure => simp [intOf]; omega
        · have hj : Hid (j = 925) := Lib.hid (by have := hj.out; omega)
          go_wp2
          go_loopw [6, 5] (fun y e wr => ∃ e' j' n : Nat, e' ≤ 253 ∧ Hid (j' + e' = b + 925) ∧ y = .float .f64 (dw false a j') ∧ e = .int .i64 e' ∧ wr = w.drewN n) (fun _ e _ => (intOf e).toNat)
          case atStart => exact ⟨b, j, _, by omega, Lib.hid (by have := hj.out; omega), rfl, rfl, rfl⟩
          case round =>
            obtain ⟨e, j, n3, heb, he, rfl, rfl, rfl⟩ := hrel
            by_cases hpos : (0 : Int) < (e : Int)
            · have hd : ∀ w, fval .mul .f64 (dw false a j) 4611686018427387904 w = dw false a (j + 1) := fval_some (dw_dbl (by omega) (by have := he.out; omega))
              go_wp2
              go_roundw
              case rel => exact ⟨e - 1, j + 1, _, by omega, Lib.hid (by have := he.out; omega), rfl, vint (by omega), rfl⟩
              case measure => simp [intOf]; omega
            · obtain rfl : j = b + 925 := by have := he.out; omega
              go_wp2
              go_ret2
              exact ⟨_, by rw [E.out, E1.out]; rfl, rfl⟩
set_option maxHeartbeats 1000000 in
theorem from_spec_neg (r : Nat) (hp : 0 < r) (hrb : r < 2139095040) (w : World) : Calls Try.prog 57 #[.int .i64 (-(r : Int))] w (FromAns (-(r : Int)) w) := by
  have E1 := Lib.hid (show fromOk (-(r : Int)) = true by unfold fromOk; simp; omega)
  have E := Lib.hid (show fromA (-(r : Int)) = r + 2147483648 by rw [fromA_hi (by omega) (by omega)]; omega)
  have hin := Lib.hid (show inB (-(r : Int)) (-2139095039) 2139095039 = true by unfold inB; simp; omega)
  have hu := Lib.hid (fun n e h1 h2 h3 => mt_unique (r := r) (n := n) (e := e) h1 h2 h3)
  have hcv := Lib.hid (fun m t h1 h2 => (fun (e1 : m = mOf r) (e2 : t = tOf r) => by rw [e1, e2]; exact cval_some (narrow_mt (s := true) hrb) : m = mOf r → t = tOf r → ∀ w, cval .f64 (dw true m (t + 925)) .f32 w = if true then r + 2147483648 else r) h1 h2)
  go_enter Try.func57, Try.ntmps57
  go_wp2_with (go_at_call 18; refine (l1In_any _ _ _ _).mono ?_; rintro e w' ⟨rfl, rfl⟩; rw [hin.out])
  go_loop [4, 5] (fun n e => ∃ a b : Nat, a + b * 8388608 ≤ r ∧ r ≤ a + b * 8388608 ∧ (b = 0 ∨ 8388608 ≤ a) ∧ n = .int .i64 a ∧ e = .int .i64 b) (fun n _ => (intOf n).toNat)
  case atStart => exact ⟨r, 0, by omega, by omega, .inl rfl, rfl, rfl⟩
  case round =>
    obtain ⟨a, b, hab1, hab2, hb, rfl, rfl⟩ := hrel
    have HB := Lib.hid hb
    clear hb
    have hble : b ≤ 255 := by omega
    have hale : a ≤ 2139095040 := by omega
    by_cases hlt : (16777216 : Int) ≤ (a : Int)
    · go_wp2
      go_round
      case rel => exact ⟨a - 8388608, b + 1, by omega, by omega, .inr (by omega), vint (by omega), by go_num⟩
      case measure => simp [intOf]; omega
    · obtain ⟨e1, e2⟩ := hu.out a b (by omega) (by omega) HB.out
      have hcw := hcv.out a b e1 e2
      have hle : b ≤ 253 := by rw [e2]; exact tOf_le hrb
      have hal : a < 16777216 := by omega
      clear e1 e2 hab1 hab2
      have hdi : floatOfInt .f64 (a : Int) = dw false a 1074 := dw_of_int
      go_wp2
      clear hdi hlt
      go_loopw [6, 7] (fun y i wr => ∃ k j n : Nat, k ≤ 149 ∧ Hid (j + k = 1074) ∧ y = .float .f64 (dw false a j) ∧ i = .int .i64 k ∧ wr = w.drewN n) (fun _ i _ => 149 - (intOf i).toNat)
      case atStart => exact ⟨0, 1074, 0, by omega, Lib.hid (by omega), rfl, rfl, rfl⟩
      case round =>
        obtain ⟨k, j, n2, hk, hj, rfl, rfl, rfl⟩ := hrel
        by_cases hlk : (k : Int) < 149
        · obtain ⟨j, rfl⟩ : ∃ j', j = j' + 1 := ⟨j - 1, by have := hj.out; omega⟩
          have hd : ∀ w, fval .quo .f64 (dw false a (j + 1)) 4611686018427387904 w = dw false a j := fval_some (dw_half (by omega) (by have := hj.out; omega))
          go_wp2
          go_roundw
          case rel => exact ⟨k + 1, j, _, by omega, Lib.hid (by have := hj.out; omega), rfl, by go_num, rfl⟩
          case measure => simp [intOf]; omega
        · have hj : Hid (j = 925) := Lib.hid (by have := hj.out; omega)
          go_wp2
          go_loopw [6, 5] (fun y e wr => ∃ e' j' n : Nat, e' ≤ 253 ∧ Hid (j' + e' = b + 925) ∧ y = .float .f64 (dw false a j') ∧ e = .int .i64 e' ∧ wr = w.drewN n) (fun _ e _ => (intOf e).toNat)
          case atStart => exact ⟨b, j, _, by omega, Lib.hid (by have := hj.out; omega), rfl, rfl, rfl⟩
          case round =>
            obtain ⟨e, j, n3, heb, he, rfl, rfl, rfl⟩ := hrel
            by_cases hpos : (0 : Int) < (e : Int)
            · have hd : ∀ w, fval .mul .f64 (dw false a j) 4611686018427387904 w = dw false a (j + 1) := fval_some (dw_dbl (by omega) (by have := he.out; omega))
              go_wp2
              go_roundw
              case rel => exact ⟨e - 1, j + 1, _, by omega, Lib.hid (by have := he.out; omega), rfl, vint (by omega), rfl⟩
              case measure => simp [intOf]; omega
            · obtain rfl : j = b + 925 := by have := he.out; omega
              have hng : Op.negFloat .f64 (dw false a (b + 925)) = dw true a (b + 925) := dw_neg false a _
              go_wp2
              go_ret2
              exact ⟨_, by rw [E.out, E1.out]; rfl, rfl⟩

theorem from_spec (k : Int) (h1 : -9223372036854775808 ≤ k) (h2 : k ≤ 9223372036854775807) (w : World) : Calls Try.prog 57 #[.int .i64 k] w (FromAns k w) := by
  by_cases hok : -2139095039 ≤ k ∧ k ≤ 2139095039
  · by_cases hk : k < 0
    · obtain ⟨r, rfl⟩ : ∃ r : Nat, k = -(r : Int) := ⟨k.natAbs, by omega⟩
      exact from_spec_neg r (by omega) (by omega) w
    · obtain ⟨r, rfl⟩ : ∃ r : Nat, k = (r : Int) := ⟨k.natAbs, by omega⟩
      exact from_spec_pos r (by omega) w
  · have hf : fromOk k = false := by unfold fromOk; simp; omega
    have E := Lib.hid (show fromOk k = false ∧ fromA k = 0 by unfold fromA; rw [hf]; simp)
    have hin := Lib.hid (show inB k (-2139095039) 2139095039 = false by unfold inB; exact hf)
    clear hf hok
    go_enter Try.func57, Try.ntmps57
    go_wp2_with (go_at_call 18; refine (l1In_any _ _ _ _).mono ?_; rintro e w' ⟨rfl, rfl⟩; rw [hin.out])
    go_ret2
    exact ⟨0, by rw [E.out.1, E.out.2]; rfl, rfl⟩
end Go.Proofs.Ytmfgffgfggkgcaa
