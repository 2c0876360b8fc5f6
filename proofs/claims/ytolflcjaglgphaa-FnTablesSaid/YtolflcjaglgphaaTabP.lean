/-
  Tables as plain lists: equal points, the place of a point, valid tables. No program in sight.
-/
import Derived.Test.YtolflcjaglgphaaSub
namespace Go.Proofs.Ytolflcjaglgphaa
open Go

/-- Two points are equal. -/
def ceq (p q : Nat × Nat) : Bool := (FloatKind.f32.format.order p.1 q.1 == some .eq) && (FloatKind.f32.format.order p.2 q.2 == some .eq)
def cfin (p : Nat × Nat) : Bool := finS p.1 && finS p.2
/-- The first place of a point; -1 if there is none. -/
def idxI (ps : List (Nat × Nat)) (z : Nat × Nat) : Int := match ps.findIdx? (fun p => ceq p z) with | some i => (i : Int) | none => -1
theorem idx_hit {ps : List (Nat × Nat)} {z : Nat × Nat} {k : Nat} (hk : k < ps.length) (h : ceq ps[k] z = true) (hb : ∀ j (hj : j < k), ceq (ps[j]'(by omega)) z = false) : idxI ps z = k := by
  unfold idxI
  rw [List.findIdx?_eq_some_iff_getElem.2 ⟨hk, h, fun j hj => by rw [hb j hj]; decide⟩]
theorem idx_miss {ps : List (Nat × Nat)} {z : Nat × Nat} (h : ∀ j (hj : j < ps.length), ceq ps[j] z = false) : idxI ps z = -1 := by
  unfold idxI
  rw [List.findIdx?_eq_none_iff.2 fun p hp => by obtain ⟨j, hj, rfl⟩ := List.getElem_of_mem hp; exact h j hj]
theorem idx_cases (ps : List (Nat × Nat)) (z : Nat × Nat) :
    (∃ k, ∃ hk : k < ps.length, idxI ps z = k ∧ ceq ps[k] z = true ∧ ∀ j (hj : j < k), ceq (ps[j]'(by omega)) z = false) ∨ (idxI ps z = -1 ∧ ∀ j (hj : j < ps.length), ceq ps[j] z = false) := by
  unfold idxI
  cases h : ps.findIdx? (fun p => ceq p z) with
  | some k =>
    obtain ⟨hk, h1, h2⟩ := List.findIdx?_eq_some_iff_getElem.1 h
    exact .inl ⟨k, hk, rfl, h1, fun j hj => by have := h2 j hj; simpa using this⟩
  | none => exact .inr ⟨rfl, fun j hj => List.findIdx?_eq_none_iff.1 h _ (List.getElem_mem hj)⟩
theorem idx_bd (ps : List (Nat × Nat)) (z : Nat × Nat) : -1 ≤ idxI ps z ∧ idxI ps z < ps.length := by
  rcases idx_cases ps z with ⟨k, hk, h, _⟩ | ⟨h, _⟩ <;> rw [h] <;> omega
/-- The points from the first on, each finite and new. -/
def good (ps : List (Nat × Nat)) : Prop := ∀ i (hi : i < ps.length), cfin ps[i] = true ∧ ∀ k (hk : k < i), ceq (ps[k]'(by omega)) ps[i] = false
instance (ps : List (Nat × Nat)) : Decidable (good ps) := by unfold good; infer_instance
/-- A valid table. -/
def isTab (ps : List (Nat × Nat)) (m : Nat) : Bool := decide (ps.length = m ∧ ps.length ≤ 64 ∧ good ps)
end Go.Proofs.Ytolflcjaglgphaa
