/-
  Distances and the nearest point of a list of points: plain. No program in sight.
-/
import Derived.Test.YtolflcjaglgphaaTabP
import Derived.Test.YtolflcjaglgphaaFl
namespace Go.Proofs.Ytolflcjaglgphaa
open Go

/-- The square of the distance of two points. -/
def distP (p q : Nat × Nat) : Nat := fop .add .f32 (fop .mul .f32 (fop .sub .f32 p.1 q.1) (fop .sub .f32 p.1 q.1)) (fop .mul .f32 (fop .sub .f32 p.2 q.2) (fop .sub .f32 p.2 q.2))
def ltS (x y : Nat) : Bool := FloatKind.f32.format.order x y == some .lt
def eqS (x y : Nat) : Bool := FloatKind.f32.format.order x y == some .eq
theorem eqS_self (x : Nat) : eqS x x = !isN .f32 x := by
  unfold eqS
  cases h : isN .f32 x with
  | true => rw [order_nan_left h]; rfl
  | false => rw [order_self h]; rfl
/-- Is point p taken, behind the best one so far? -/
def takes (z : Nat × Nat) (st : Int × Nat) (p : Nat × Nat) : Bool := eqS (distP p z) (distP p z) && (decide (st.1 < 0) || ltS (distP p z) st.2)
/-- The best place and its distance, going on from place k. -/
def nearF (z : Nat × Nat) : List (Nat × Nat) → Nat → Int × Nat → Int × Nat
  | [], _, st => st
  | p :: ps, k, st => nearF z ps (k + 1) (if takes z st p then ((k : Int), distP p z) else st)
theorem nearF_snoc (z : Nat × Nat) (ps : List (Nat × Nat)) (p : Nat × Nat) (k : Nat) (st : Int × Nat) :
    nearF z (ps ++ [p]) k st = if takes z (nearF z ps k st) p then (((k + ps.length : Nat) : Int), distP p z) else nearF z ps k st := by
  induction ps generalizing k st with
  | nil => rfl
  | cons q ps ih => rw [List.cons_append, nearF, ih, nearF, List.length_cons, show k + 1 + ps.length = k + (ps.length + 1) by omega]
/-- The same, of the points below k. -/
def nearTo (ps : List (Nat × Nat)) (z : Nat × Nat) (k : Nat) : Int × Nat := nearF z (ps.take k) 0 (-1, 0)
/-- The place of the nearest point; -1 if there is none. -/
def nearI (ps : List (Nat × Nat)) (z : Nat × Nat) : Int := (nearF z ps 0 (-1, 0)).1
theorem nearI_to (ps : List (Nat × Nat)) (z : Nat × Nat) : nearI ps z = (nearTo ps z ps.length).1 := by unfold nearI nearTo; rw [List.take_length]
theorem near_zero (ps : List (Nat × Nat)) (z : Nat × Nat) : nearTo ps z 0 = (-1, 0) := rfl
theorem near_succ {ps : List (Nat × Nat)} {z : Nat × Nat} {k : Nat} (hk : k < ps.length) : nearTo ps z (k + 1) = if takes z (nearTo ps z k) ps[k] then ((k : Int), distP ps[k] z) else nearTo ps z k := by
  unfold nearTo
  rw [List.take_succ_eq_append_getElem hk, nearF_snoc, Nat.zero_add, List.length_take, Nat.min_eq_left (by omega)]
theorem near_hit {ps : List (Nat × Nat)} {z : Nat × Nat} {k : Nat} (hk : k < ps.length) (h : takes z (nearTo ps z k) ps[k] = true) : nearTo ps z (k + 1) = ((k : Int), distP ps[k] z) := by
  rw [near_succ hk, if_pos h]
theorem near_miss {ps : List (Nat × Nat)} {z : Nat × Nat} {k : Nat} (hk : k < ps.length) (h : takes z (nearTo ps z k) ps[k] = false) : nearTo ps z (k + 1) = nearTo ps z k := by
  rw [near_succ hk, h]; rfl
theorem nearTo_bd (ps : List (Nat × Nat)) (z : Nat × Nat) (k : Nat) (hk : k ≤ ps.length) : -1 ≤ (nearTo ps z k).1 ∧ (nearTo ps z k).1 < k := by
  induction k with
  | zero => rw [near_zero]; exact ⟨Int.le_refl _, by show (-1 : Int) < _; omega⟩
  | succ k ih =>
    have := ih (by omega)
    cases h : takes z (nearTo ps z k) ps[k] with
    | true => rw [near_hit hk h]; exact ⟨by show (-1 : Int) ≤ k; omega, by show (k : Int) < _; omega⟩
    | false => rw [near_miss hk h]; omega
theorem nearI_bd (ps : List (Nat × Nat)) (z : Nat × Nat) : -1 ≤ nearI ps z ∧ nearI ps z < ps.length := by rw [nearI_to]; exact nearTo_bd ps z ps.length (Nat.le_refl _)
/-- The first place of a number; -1 if there is none. -/
def idxL (ls : List Int) (n : Int) : Int := match ls.findIdx? (fun p => p == n) with | some i => (i : Int) | none => -1
theorem idxL_hit {ls : List Int} {n : Int} {k : Nat} (hk : k < ls.length) (h : ls[k] = n) (hb : ∀ j (hj : j < k), ls[j]'(by omega) ≠ n) : idxL ls n = k := by
  unfold idxL
  rw [List.findIdx?_eq_some_iff_getElem.2 ⟨hk, by simp [h], fun j hj => by simpa using hb j hj⟩]
theorem idxL_miss {ls : List Int} {n : Int} (h : ∀ j (hj : j < ls.length), ls[j] ≠ n) : idxL ls n = -1 := by
  unfold idxL
  rw [List.findIdx?_eq_none_iff.2 fun p hp => by obtain ⟨j, hj, rfl⟩ := List.getElem_of_mem hp; simpa using h j hj]
theorem idxL_bd (ls : List Int) (n : Int) : -1 ≤ idxL ls n ∧ idxL ls n < ls.length := by
  unfold idxL
  cases h : ls.findIdx? (fun p => p == n) with
  | some k =>
    obtain ⟨hk, -, -⟩ := List.findIdx?_eq_some_iff_getElem.1 h
    exact ⟨by show (-1 : Int) ≤ k; omega, by show (k : Int) < _; omega⟩
  | none => exact ⟨by decide, by show (-1 : Int) < _; omega⟩

/-- The product of two points in double precision, rounded; 'some' where nothing is left open. -/
def wide (x : Nat) : Option Nat := floatToFloatBits .f32 x .f64
def slim (x : Nat) : Option Nat := floatToFloatBits .f64 x .f32
def mulP (p t : Nat × Nat) : Option (Nat × Nat) := do
  let a ← wide p.1; let b ← wide p.2; let c ← wide t.1; let d ← wide t.2
  let ac ← floatBits .mul .f64 a c; let bd ← floatBits .mul .f64 b d; let ad ← floatBits .mul .f64 a d; let bc ← floatBits .mul .f64 b c
  let re ← floatBits .sub .f64 ac bd
  let r ← slim re
  let im ← floatBits .add .f64 ad bc
  let i ← slim im
  pure (r, i)
end Go.Proofs.Ytolflcjaglgphaa
