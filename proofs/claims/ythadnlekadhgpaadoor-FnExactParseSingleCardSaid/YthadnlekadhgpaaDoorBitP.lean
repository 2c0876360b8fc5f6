/-
  Bits of a word of 32 bits as remainders and quotients.
-/
import Derived.Test.YthadnlekadhgpaaDoorBits
import Derived.Laws.BitsAllLaws
namespace Go.Proofs.YthadnlekadhgpaaDoor
open Go.RowKit
theorem and_low31 (x : Nat) (h : x < 4294967296) : bits BinOp.and IntKind.u32 (x : Int) 2147483647 = ((x % 2147483648 : Nat) : Int) := by
  rw [show (2147483647 : Int) = ((2147483647 : Nat) : Int) from rfl, u32_and_nat x 2147483647 h (by decide)]
  congr 1
  exact Nat.and_two_pow_sub_one_eq_mod x 31
theorem and_low23 (x : Nat) (h : x < 4294967296) : bits BinOp.and IntKind.u32 (x : Int) 8388607 = ((x % 8388608 : Nat) : Int) := by
  rw [show (8388607 : Int) = ((8388607 : Nat) : Int) from rfl, u32_and_nat x 8388607 h (by decide)]
  congr 1
  exact Nat.and_two_pow_sub_one_eq_mod x 23
theorem and_low8 (x : Nat) (h : x < 4294967296) : bits BinOp.and IntKind.u32 (x : Int) 255 = ((x % 256 : Nat) : Int) := by
  rw [show (255 : Int) = ((255 : Nat) : Int) from rfl, u32_and_nat x 255 h (by decide)]
  congr 1
  exact Nat.and_two_pow_sub_one_eq_mod x 8
theorem or_23 (m : Nat) (h : m < 8388608) : bits BinOp.or IntKind.u32 (m : Int) 8388608 = ((8388608 + m : Nat) : Int) := by
  rw [show (8388608 : Int) = ((8388608 : Nat) : Int) from rfl, u32_or_nat m 8388608 (by omega) (by decide)]
  congr 1
  have := Nat.two_pow_add_eq_or_of_lt (i := 23) (show m < 2 ^ 23 from h) 1
  rw [Nat.or_comm]
  simpa using this.symm
end Go.Proofs.YthadnlekadhgpaaDoor
