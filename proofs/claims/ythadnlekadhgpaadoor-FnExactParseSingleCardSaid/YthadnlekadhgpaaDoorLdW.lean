/-
  math.Ldexp of a whole number below 2^24 and a power of two of at most 200: exact.
-/
import Derived.Test.YthadnlekadhgpaaDoorLdP
import Derived.Test.YthadnlekadhgpaaDoorBits
import Derived.Below
import Derived.Lib.Hide
namespace Go.Proofs.YthadnlekadhgpaaDoor
open Go.RowKit
@[go_sem] theorem run_f64frombits (n : Int) (w : World) : (callFunc 60 #[.int .u64 n]).run Tryd.prog w = .ok (.value (.float .f64 n.toNat)) w := by
  rw [run_callFunc_extern (e := Extern.MathFloatBits.float64frombits) Tryd.func60 (by kernel_rfl) (by kernel_rfl) (by kernel_rfl) (by kernel_rfl)]; rfl
theorem i64_and2047 (n : Int) : bits .and .i64 n 2047 = n % 2048 := by
  have h127 : (BitVec.ofInt 64 2047).toNat = 2 ^ 11 - 1 := by decide
  have key : (BitVec.ofInt 64 n &&& BitVec.ofInt 64 2047).toNat = (n % ((2 ^ 64 : Nat) : Int)).toNat % 2 ^ 11 := by
    rw [BitVec.toNat_and, BitVec.toNat_ofInt, h127, Nat.and_two_pow_sub_one_eq_mod]
  show IntKind.i64.wrap ((BitVec.ofInt 64 n &&& BitVec.ofInt 64 2047).toNat : Nat) = n % 2048
  rw [key, IntKind.wrap_i64]
  omega
theorem fabs_any (X : Nat) (hX : X < 9223372036854775808) (w : World) : Calls Tryd.prog 75 #[.float .f64 X] w fun e w' => e = .returned (.float .f64 X) ∧ w' = w := by
  have a1 := and_top63 hX
  clear hX
  go_enter Tryd.func75, Tryd.ntmps75
  go_wp2
  go_ret
  exact ⟨rfl, rfl⟩
theorem isInf_any (X : Nat) (hX : X < 9223372036854775808) (hm : (FloatKind.f64.format.order X 9218868437227405311 == some .gt) = false) (w : World) :
    Calls Tryd.prog 55 #[.float .f64 X, .int .i64 0] w fun e w' => e = .returned (.bool false) ∧ w' = w := by
  have H := Lib.hid hX
  clear hX
  go_enter Tryd.func55, Tryd.ntmps55
  go_wp2_with (go_at_call 75; refine (fabs_any X H.out _).mono ?_; rintro e w' ⟨rfl, rfl⟩)
  go_ret
  exact ⟨rfl, rfl⟩
theorem isNaN_any (X : Nat) (hm : (FloatKind.f64.format.order X X != some .eq) = false) (w : World) :
    Calls Tryd.prog 56 #[.float .f64 X] w fun e w' => e = .returned (.bool false) ∧ w' = w := by
  go_enter Tryd.func56, Tryd.ntmps56
  go_wp2
  go_ret
  exact ⟨rfl, rfl⟩
theorem normalize_any (X : Nat) (hX : X < 9223372036854775808) (hm : (FloatKind.f64.format.order X 4503599627370496 == some .lt) = false) (w : World) :
    Calls Tryd.prog 57 #[.float .f64 X] w fun e w' => e = .returned (.tuple #[.float .f64 X, .int .i64 0]) ∧ w' = w := by
  have H := Lib.hid hX
  clear hX
  go_enter Tryd.func57, Tryd.ntmps57
  go_wp2_with (go_at_call 75; refine (fabs_any X H.out _).mono ?_; rintro e w' ⟨rfl, rfl⟩)
  go_ret2
  exact ⟨rfl, rfl⟩
set_option maxHeartbeats 1000000 in
set_option maxRecDepth 100000 in
theorem ldexp_in (X F Q Y : Nat) (p : Int) (hp : -200 ≤ p ∧ p ≤ 200) (hQ : 1023 ≤ Q ∧ Q < 1047) (hX : X < 9223372036854775808) (hF : F < 4503599627370496) (h3 : (X : Int) / 4503599627370496 = (Q : Int))
    (h2 : X % 4503599627370496 = F) (hY : Y = (p + Q).toNat * 4503599627370496 + F) (hfin : Ieee.double.fin Y)
    (q1 : (FloatKind.f64.format.order X 0 == some .eq) = false) (q2 : (FloatKind.f64.format.order X 9218868437227405311 == some .gt) = false)
    (q3 : (FloatKind.f64.format.order X 4503599627370496 == some .lt) = false) (q4 : (FloatKind.f64.format.order X X != some .eq) = false) (w : World) :
    Calls Tryd.prog 42 #[.float .f64 X, .int .i64 p] w fun e w' => ∃ n, e = .returned (.float .f64 Y) ∧ w' = w.drewN n := by
  have a2 : bits .andNot .u64 (X : Int) 9218868437227405312 = (F : Int) := by rw [and_exp hX, h2]
  have a4 : wrap64 (Q : Int) = Q := by unfold wrap64; omega
  have a5 : bits .and .i64 (Q : Int) 2047 = Q := by rw [i64_and2047]; omega
  have H := Lib.hid (show _ ∧ _ ∧ _ ∧ _ ∧ _ ∧ _ from ⟨hX, q2, q3, q4, hY, hfin⟩)
  clear hX q2 q3 q4 hY hfin h2
  go_enter Tryd.func42, Tryd.ntmps42
  go_wp2_with (first
    | (go_at_call 55; refine (isInf_any X H.out.1 H.out.2.1 _).mono ?_; rintro e w' ⟨rfl, rfl⟩)
    | (go_at_call 56; refine (isNaN_any X H.out.2.2.2.1 _).mono ?_; rintro e w' ⟨rfl, rfl⟩)
    | (go_at_call 57; refine (normalize_any X H.out.1 H.out.2.2.1 _).mono ?_; rintro e w' ⟨rfl, rfl⟩)
    | (go_at_call 49; go_in)
    | (go_at_call 60; fail)
    | fail)
  obtain ⟨-, -, -, -, hY, hfin⟩ := H.out
  have hb : bits .or .u64 (F : Int) ((p + ((Q : Int) - 1023) + 1023) * 4503599627370496) = (Y : Int) := by
    rw [show p + ((Q : Int) - 1023) + 1023 = (((p + Q).toNat : Nat) : Int) by omega, or_exp hF (by omega), ← hY]
  have hv := fval_some (dw_one_mul hfin (by omega)) w'
  go_ret
  refine ⟨_, ?_, rfl⟩
  show Ending.returned (.float .f64 (fval .mul .f64 4607182418800017408 (bits .or .u64 (F : Int) ((p + ((Q : Int) - 1023) + 1023) * 4503599627370496)).toNat w')) = _
  rw [hb, Int.toNat_natCast, hv]
theorem ldexp_any (m : Nat) (p : Int) (h0 : 0 < m) (hm : m < 16777216) (hp : -200 ≤ p ∧ p ≤ 200) (w : World) :
    Calls Tryd.prog 31 #[.float .f64 (dw false m 1074), .int .i64 p] w fun e w' => ∃ n, e = .returned (.float .f64 (dw false m (1074 + p).toNat)) ∧ w' = w.drewN n := by
  have hk1 : 2 ^ m.log2 ≤ m := Nat.log2_self_le (by omega)
  have hk2 : m < 2 ^ (m.log2 + 1) := Nat.lt_log2_self
  have hk : m.log2 < 24 := (Nat.log2_lt (by omega)).2 hm
  have hW1 := dw_word (J := 1074) (q := 1023 + m.log2) hk1 hk2 (by omega) (by omega) (by omega) (by omega)
  have hW2 := dw_word (J := (1074 + p).toNat) (q := (p + ((1023 + m.log2 : Nat) : Int)).toNat) hk1 hk2 (by omega) (by omega) (by omega) (by omega)
  have hfin := dw_fin (s := false) (m := m) (j := (1074 + p).toNat) (by omega) (by omega)
  have q1 := not_zero (J := 1074) h0 hm (by omega)
  have q2 := not_max hm
  have q3 := not_small h0 hm
  have q4 : (FloatKind.f64.format.order (dw false m 1074) (dw false m 1074) != some .eq) = false := by rw [bne, dw_self (by omega) (by omega)]; rfl
  generalize dw false m (1074 + p).toNat = Y at *
  generalize dw false m 1074 = X at *
  generalize m * 2 ^ (52 - m.log2) - 4503599627370496 = F at *
  generalize m.log2 = k at *
  have HL := Lib.hid (fun w => ldexp_in X F (1023 + k) Y p hp (by omega) (by omega) hW1.2 (by omega) (by omega) hW2.1 hfin q1 q2 q3 q4 w)
  clear hk1 hk2 hW1 hW2 hfin q1 q2 q3 q4
  go_enter Tryd.func31, Tryd.ntmps31
  go_wp2_with (go_at_call 42; refine (HL.out _).mono ?_; rintro e w' ⟨n, rfl, rfl⟩)
  go_ret
  exact ⟨_, rfl, rfl⟩
end Go.Proofs.YthadnlekadhgpaaDoor
