/-
  The small integers as numbers, their thirds and their 1024-folds: told by counting them up. No program in sight.
-/
import Derived.Test.YtpjplcbcbabbnaaKnuth2
namespace Go.Proofs.Ytpjplcbcbabbnaa
open Go

/-- One place of 2^-25, in units. -/
def K25 : Int := 21267647932558653966460912964485513216
def finQ (x : Nat) : Bool := decide (Ieee.single.rung x < Ieee.single.infRung)
theorem finQ_iff {x : Nat} : finQ x = true ↔ Ieee.single.fin x := by unfold finQ Ieee.Format.fin; exact decide_eq_true_iff
/-- The whole number z as a word. -/
def fi (z : Int) : Nat := (floatOfInt .f32 z)
def thirdChk (z : Int) : Bool :=
  finQ (fi z) && decide (Ieee.single.val (fi z) = z * 33554432 * K25) &&
  finQ (fop .quo .f32 (fi z) 1077936128) && decide (Ieee.single.val (fop .quo .f32 (fi z) 1077936128) = (Ieee.single.val (fop .quo .f32 (fi z) 1077936128) / K25) * K25) &&
  decide (-11207180288 ≤ Ieee.single.val (fop .quo .f32 (fi z) 1077936128) / K25) && decide (Ieee.single.val (fop .quo .f32 (fi z) 1077936128) / K25 ≤ 11207180288) &&
  decide (rI (Ieee.single.val (fop .quo .f32 (fi z) 1077936128) / K25) = Ieee.single.val (fop .quo .f32 (fi z) 1077936128) / K25) &&
  finQ (fop .mul .f32 (fi z) 1149239296) && decide (Ieee.single.val (fop .mul .f32 (fi z) 1149239296) = z * 34359738368 * K25)
theorem third_all : (List.range 2001).all (fun n => thirdChk ((n : Int) - 1000)) = true := by decide +kernel
end Go.Proofs.Ytpjplcbcbabbnaa
