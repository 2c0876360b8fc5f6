/-
  What MergeTables makes of two tables: plain. No program in sight.
-/
import Derived.Test.YtolflcjaglgphaaPutP
namespace Go.Proofs.Ytolflcjaglgphaa
open Go
abbrev Tab := List (Nat × Nat) × List Int
/-- A list of points with labels put into a table, one by one. -/
def mergeF : List ((Nat × Nat) × Int) → Tab → Option Tab
  | [], t => some t
  | (p, l) :: r, t => (putP t.1 t.2 p l).bind (mergeF r)
theorem mergeF_snoc (xs : List ((Nat × Nat) × Int)) (p : Nat × Nat) (l : Int) (t : Tab) : mergeF (xs ++ [(p, l)]) t = (mergeF xs t).bind fun c => putP c.1 c.2 p l := by
  induction xs generalizing t with
  | nil =>
    show (putP t.1 t.2 p l).bind (mergeF []) = putP t.1 t.2 p l
    cases putP t.1 t.2 p l <;> rfl
  | cons x xs ih =>
    obtain ⟨q, m⟩ := x
    show (putP t.1 t.2 q m).bind (mergeF (xs ++ [(p, l)])) = ((putP t.1 t.2 q m).bind (mergeF xs)).bind _
    cases putP t.1 t.2 q m with
    | none => rfl
    | some c => exact ih c
theorem mergeF_none {xs ys : List ((Nat × Nat) × Int)} {t : Tab} (h : mergeF xs t = none) : mergeF (xs ++ ys) t = none := by
  induction xs generalizing t with
  | nil => cases h
  | cons x xs ih =>
    obtain ⟨q, m⟩ := x
    change (putP t.1 t.2 q m).bind (mergeF xs) = none at h
    show (putP t.1 t.2 q m).bind (mergeF (xs ++ ys)) = none
    cases hp : putP t.1 t.2 q m with
    | none => rfl
    | some c => rw [hp] at h; exact ih h
def mergeP (a b : Tab) : Option Tab := if isTab a.1 a.2.length && isTab b.1 b.2.length then mergeF (b.1.zip b.2) a else none
theorem zip_take {ps : List (Nat × Nat)} {ls : List Int} {k : Nat} (h1 : k < ps.length) (h2 : k < ls.length) : (ps.zip ls).take (k + 1) = (ps.zip ls).take k ++ [(ps[k], ls[k])] := by
  rw [List.take_succ_eq_append_getElem (by simp; omega)]
  congr 1
  simp
theorem merge_at {ps : List (Nat × Nat)} {ls : List Int} {k : Nat} (h1 : k < ps.length) (h2 : k < ls.length) {t c : Tab} (h : mergeF ((ps.zip ls).take k) t = some c) : mergeF ((ps.zip ls).take (k + 1)) t = putP c.1 c.2 ps[k] ls[k] := by
  rw [zip_take h1 h2, mergeF_snoc, h]; rfl
theorem merge_fail {ps : List (Nat × Nat)} {ls : List Int} {k : Nat} {t : Tab} (h : mergeF ((ps.zip ls).take k) t = none) : mergeF (ps.zip ls) t = none := by
  rw [← List.take_append_drop k (ps.zip ls)]; exact mergeF_none h
end Go.Proofs.Ytolflcjaglgphaa
