/-
  Samples appended to a lease, as plain lists. No program in sight.
-/
import Derived.Test.YtmfgffgfggkgcaaAwS
namespace Go.Proofs.Ytmfgffgfggkgcaa
open Go
/-- Samples written into a store from a place on. -/
def putS : List (Nat × Nat) → Nat → List (Nat × Nat) → List (Nat × Nat)
  | S, _, [] => S
  | S, o, z :: Z => putS (S.set o z) (o + 1) Z
theorem putS_len (S : List (Nat × Nat)) (o : Nat) (Z : List (Nat × Nat)) : (putS S o Z).length = S.length := by
  induction Z generalizing S o with
  | nil => rfl
  | cons z Z ih => rw [putS, ih, List.length_set]
/-- The place behind a lease's last sample. -/
def endAt (L : List Ls) (id : Int) : Nat := (lsS (L.getD id.toNat lsD) + lsC (L.getD id.toNat lsD)).toNat
/-- The leases where one of them has so many samples more. -/
def moreL (L : List Ls) (id : Int) (m : Nat) : List Ls :=
  L.set id.toNat (lsS (L.getD id.toNat lsD), lsC (L.getD id.toNat lsD) + m, lsR (L.getD id.toNat lsD), lsF (L.getD id.toNat lsD))
theorem moreL_len (L : List Ls) (id : Int) (m : Nat) : (moreL L id m).length = L.length := by unfold moreL; rw [List.length_set]
theorem moreL_at {L : List Ls} {k : Nat} (hk : k < L.length) (m : Nat) : moreL L k m = L.set k (lsS L[k], lsC L[k] + m, lsR L[k], lsF L[k]) := by
  unfold moreL
  rw [getD_at hk, Int.toNat_natCast]
theorem endAt_at {L : List Ls} {k s c : Nat} (hk : k < L.length) (hs : lsS L[k] = s) (hc : lsC L[k] = c) : endAt L k = s + c := by
  unfold endAt
  rw [getD_at hk, hs, hc]
  omega
/-- A pool to which a list was appended. -/
def appS (S : List (Nat × Nat)) (L : List Ls) (id : Int) (Z : List (Nat × Nat)) : List (Nat × Nat) := putS S (endAt L id) Z
theorem pairwise_set {L : List Ls} {k : Nat} {x : Ls} (hk : k < L.length) (hx : lsS x = lsS L[k] ∧ lsR x = lsR L[k] ∧ lsF x = lsF L[k]) (h : L.Pairwise apart) : (L.set k x).Pairwise apart := by
  rw [List.pairwise_iff_getElem] at h ⊢
  intro i j hi hj hij
  rw [List.length_set] at hi hj
  have h := h i j hi hj hij
  rw [List.getElem_set, List.getElem_set]
  split
  · rename_i e
    subst e
    rw [if_neg (by omega)]
    unfold apart at h ⊢
    rwa [hx.1, hx.2.1, hx.2.2]
  · split
    · rename_i e
      subst e
      unfold apart at h ⊢
      rwa [hx.1, hx.2.1, hx.2.2]
    · exact h
/-- A valid pool stays one. -/
theorem pool_more {n m : Nat} {L : List Ls} {id : Int} (h : appOk n L id m = true) : isPoolP n (moreL L id m) = true := by
  unfold appOk at h
  rw [Bool.and_eq_true, decide_eq_true_eq] at h
  obtain ⟨hl, hm⟩ := h
  obtain ⟨k, hk, rfl, hp, hok, hf⟩ := lentP_at hl
  rw [getD_at hk] at hm
  rw [moreL_at hk]
  unfold isPoolP at hp ⊢
  simp only [Bool.and_eq_true, decide_eq_true_eq, oks] at hp ⊢
  obtain ⟨h1, h2, h3, h4⟩ := hp
  refine ⟨h1, by rw [List.length_set]; exact h2, fun l hl => ?_, pairwise_set hk ⟨rfl, rfl, rfl⟩ h4⟩
  rcases List.mem_or_eq_of_mem_set hl with h | rfl
  · exact h3 l h
  · have hr := in_room hok hf
    unfold okL
    rw [show lsF (lsS L[k], lsC L[k] + (m : Int), lsR L[k], lsF L[k]) = false from hf, if_neg (by decide)]
    show 0 ≤ lsS L[k] ∧ lsS L[k] ≤ n ∧ 1 ≤ lsR L[k] ∧ lsR L[k] ≤ n - lsS L[k] ∧ 0 ≤ lsC L[k] + (m : Int) ∧ lsC L[k] + (m : Int) ≤ lsR L[k]
    omega
/-- Sample by sample. -/
theorem moreL_getD {L : List Ls} {k : Nat} (hk : k < L.length) (m : Nat) : (moreL L k m).getD k lsD = (lsS L[k], lsC L[k] + (m : Int), lsR L[k], lsF L[k]) := by
  rw [moreL_at hk, List.getD_eq_getElem?_getD, List.getElem?_set_self hk]; rfl
theorem moreL_more {L : List Ls} {k a b : Nat} (hk : k < L.length) : moreL (moreL L k a) k b = moreL L k (a + b) := by
  have h2 := moreL_getD hk a
  rw [moreL, Int.toNat_natCast, h2, moreL_at hk, moreL_at hk, List.set_set]
  congr 1
  show (lsS L[k], lsC L[k] + (a : Int) + (b : Int), lsR L[k], lsF L[k]) = _
  rw [Int.add_assoc, ← Int.natCast_add]
theorem moreL_zero {L : List Ls} {k : Nat} (hk : k < L.length) : moreL L k 0 = L := by
  rw [moreL_at hk]
  have e : (lsS L[k], lsC L[k] + ((0 : Nat) : Int), lsR L[k], lsF L[k]) = L[k] := by
    rw [Int.natCast_zero, Int.add_zero]; rfl
  rw [e]
  exact List.set_getElem_self hk
end Go.Proofs.Ytmfgffgfggkgcaa
