/-
  What PutPoint makes of a table: plain. No program in sight.
-/
import Derived.Test.YtolflcjaglgphaaTabP
namespace Go.Proofs.Ytolflcjaglgphaa
open Go
/-- A table with a point put in. -/
def putP (ps : List (Nat × Nat)) (ls : List Int) (z : Nat × Nat) (l : Int) : Option (List (Nat × Nat) × List Int) :=
  if isTab ps ls.length then
    if 0 ≤ idxI ps z then some (ps, ls.set (idxI ps z).toNat l)
    else if isTab (ps ++ [z]) (ls ++ [l]).length then some (ps ++ [z], ls ++ [l]) else none
  else none
section
variable {ps : List (Nat × Nat)} {ls : List Int} {z : Nat × Nat} {l : Int}
theorem putP_bad (h : isTab ps ls.length = false) : putP ps ls z l = none := by unfold putP; rw [h]; rfl
theorem putP_set (h : isTab ps ls.length = true) (h2 : 0 ≤ idxI ps z) : putP ps ls z l = some (ps, ls.set (idxI ps z).toNat l) := by unfold putP; rw [if_pos h, if_pos h2]
theorem putP_new (h : isTab ps ls.length = true) (h2 : ¬ 0 ≤ idxI ps z) (h3 : isTab (ps ++ [z]) (ls ++ [l]).length = true) : putP ps ls z l = some (ps ++ [z], ls ++ [l]) := by unfold putP; rw [if_pos h, if_neg h2, if_pos h3]
theorem putP_full (h : isTab ps ls.length = true) (h2 : ¬ 0 ≤ idxI ps z) (h3 : isTab (ps ++ [z]) (ls ++ [l]).length = false) : putP ps ls z l = none := by unfold putP; rw [if_pos h, if_neg h2, h3]; rfl
end
end Go.Proofs.Ytolflcjaglgphaa
