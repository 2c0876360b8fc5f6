/-
  Pools in memory: rows of samples and of leases that a call owns.
-/
import Derived.Test.YtmfgffgfggkgcaaPoP
import Derived.Test.YtmfgffgfggkgcaaCx
import Derived.Test.YtmfgffgfggkgcaaKp
import Derived.Test.YtmfgffgfggkgcaaFromS
import Derived.Below
namespace Go.Proofs.Ytmfgffgfggkgcaa
open Go.RowKit
def lsCells (l : Ls) : List Value := [.int .i64 (lsS l), .int .i64 (lsC l), .int .i64 (lsR l), .bool (lsF l)]
def lsV (l : Ls) : Value := .agg #[.int .i64 (lsS l), .int .i64 (lsC l), .int .i64 (lsR l), .bool (lsF l)]
def rowL : List Ls → List Value
  | [] => []
  | l :: L => lsCells l ++ rowL L
theorem rowL_len (L : List Ls) : (rowL L).length = L.length * 4 := by
  induction L with
  | nil => rfl
  | cons l L ih => rw [rowL, List.length_append, ih, List.length_cons]; simp [lsCells]; omega
theorem rowL_append (L M : List Ls) : rowL (L ++ M) = rowL L ++ rowL M := by
  induction L with
  | nil => rfl
  | cons l L ih => rw [List.cons_append, rowL, ih, rowL, List.append_assoc]
theorem rowL_at {L : List Ls} {i j : Nat} (hi : i < L.length) (hj : j < 4) : (rowL L)[i * 4 + j]? = (lsCells L[i])[j]? := by
  induction L generalizing i with
  | nil => simp at hi
  | cons l L ih =>
    have hl : (lsCells l).length = 4 := rfl
    rw [rowL]
    cases i with
    | zero => rw [List.getElem?_append_left (by omega), Nat.zero_mul, Nat.zero_add]; rfl
    | succ i =>
      rw [List.getElem?_append_right (by omega), hl, show (i + 1) * 4 + j - 4 = i * 4 + j by omega, ih (by simpa using hi)]
      rfl
theorem row_below {base e sz n : Nat} {w w' : World} {v : Value} {xs : List Value} (h : w.ownsRow base e sz v n xs) (hb : Below w.heap.size w w') : w'.ownsRow base e sz v n xs :=
  h.kept (row := none) ⟨hb.os, hb.tape, hb.output, hb.size, fun k hk _ => hb.block k hk⟩ (by
    cases hv : v.ownBlock with
    | none => exact .inl rfl
    | some k => exact .inr (by simp))
theorem row_val {w : World} {B e sz n : Nat} {v : Value} {xs : List Value} (h : w.ownsRow B e sz v n xs) : (v = .slice none 0 0 ∧ n = 0) ∨ ∃ g cap, v = .slice (some ⟨g, 0, none⟩) n cap ∧ B ≤ g ∧ g < w.heap.size ∧ n ≤ cap ∧ cap ≤ maxLen := by
  rcases h.2 with ⟨h1, h2⟩ | ⟨g, cap, cur, h1, h2, h3, h4, h5, -⟩
  · exact .inl ⟨h1, h2⟩
  · exact .inr ⟨g, cap, h1, h2, (Array.getElem?_eq_some_iff.1 h3).1, h4, h5⟩
theorem row_base {w : World} {base base' e sz n : Nat} {v : Value} {xs : List Value} (h : w.ownsRow base e sz v n xs) (hb : base' ≤ base) : w.ownsRow base' e sz v n xs := by
  refine ⟨h.1, ?_⟩
  rcases h.2 with h2 | ⟨g, cap, cur, h1, h2, h3⟩
  · exact .inl h2
  · exact .inr ⟨g, cap, cur, h1, Nat.le_trans hb h2, h3⟩
/-- A row of the call's own, or an empty slice without room, wherever it points. -/
def OR (w : World) (B e sz : Nat) (v : Value) (n : Nat) (xs : List Value) : Prop := (∃ b : Addr, v = .slice (some b) 0 0 ∧ n = 0 ∧ xs = []) ∨ w.ownsRow B e sz v n xs
theorem OR.len {w : World} {B e sz n : Nat} {v : Value} {xs : List Value} (h : OR w B e sz v n xs) : xs.length = n * sz := by
  rcases h with ⟨b, -, rfl, rfl⟩ | h
  · simp
  · exact h.1
theorem OR.below {w w' : World} {B e sz n : Nat} {v : Value} {xs : List Value} (h : OR w B e sz v n xs) (hb : Below w.heap.size w w') : OR w' B e sz v n xs := h.imp id fun h => row_below h hb
theorem OR.base {w : World} {B B' e sz n : Nat} {v : Value} {xs : List Value} (h : OR w B e sz v n xs) (hb : B' ≤ B) : OR w B' e sz v n xs := h.imp id fun h => row_base h hb
theorem OR.own {w : World} {B e sz n : Nat} {v : Value} {xs : List Value} (h : OR w B e sz v n xs) (hn : 0 < n) : w.ownsRow B e sz v n xs := by
  rcases h with ⟨b, -, h0, -⟩ | h
  · omega
  · exact h
theorem OR.nil (w : World) (B e sz : Nat) : OR w B e sz (.slice none 0 0) 0 [] := .inr ⟨by simp, .inl ⟨rfl, rfl⟩⟩
theorem OR.open {w : World} {B e sz n : Nat} {v : Value} {xs : List Value} (h : OR w B e sz v n xs) : ∃ a cap, v = .slice a n cap := by
  rcases h with ⟨b, rfl, rfl, -⟩ | h
  · exact ⟨_, _, rfl⟩
  · rcases row_val h with ⟨rfl, rfl⟩ | ⟨g, cap, rfl, -⟩
    · exact ⟨none, 0, rfl⟩
    · exact ⟨_, cap, rfl⟩
/-- A cell of a block below the base changes, or of another block of another kind. -/
theorem row_setCell {w : World} {B e sz n D j : Nat} {v u : Value} {xs : List Value} (h : w.ownsRow B e sz v n xs) (hne : some D ≠ v.ownBlock) : (w.setCell ⟨D, j, none⟩ u).ownsRow B e sz v n xs :=
  h.kept (row := some D) ⟨rfl, rfl, rfl, by simp, fun k _ hc => heap_setCell_other _ _ _ _ (fun e => hc (by rw [e]))⟩ (by
    cases hv : v.ownBlock with
    | none => exact .inl rfl
    | some k => exact .inr (by rw [← hv]; exact fun e => hne e.symm))
theorem row_low {w : World} {B e sz n D : Nat} {v : Value} {xs : List Value} (h : w.ownsRow B e sz v n xs) (hD : D < B) : some D ≠ v.ownBlock := by
  rcases row_val h with ⟨rfl, -⟩ | ⟨g, cap, rfl, hg, -⟩
  · intro he; cases he
  · intro he; injection he with he; simp only at he; omega
theorem OR.setLow {w : World} {B e sz n D j : Nat} {v u : Value} {xs : List Value} (h : OR w B e sz v n xs) (hD : D < B) : OR (w.setCell ⟨D, j, none⟩ u) B e sz v n xs := h.imp id fun h => row_setCell h (row_low h hD)
/-- A pool whose rows the call owns. -/
structure PoO (B : Nat) (w : World) (v0 v1 : Value) (S : List (Nat × Nat)) (L : List Ls) : Prop where
  o0 : OR w B 37 1 v0 S.length (S.map cx)
  o1 : OR w B 52 4 v1 L.length (rowL L)
  wf : ∀ p ∈ S, p.1 < 4294967296 ∧ p.2 < 4294967296
  le0 : S.length ≤ 256
  le1 : L.length ≤ 16
theorem PoO.below {B : Nat} {w w' : World} {v0 v1 : Value} {S : List (Nat × Nat)} {L : List Ls} (h : PoO B w v0 v1 S L) (hb : Below w.heap.size w w') : PoO B w' v0 v1 S L :=
  ⟨h.o0.below hb, h.o1.below hb, h.wf, h.le0, h.le1⟩
theorem PoO.base {B B' : Nat} {w : World} {v0 v1 : Value} {S : List (Nat × Nat)} {L : List Ls} (h : PoO B w v0 v1 S L) (hb : B' ≤ B) : PoO B' w v0 v1 S L :=
  ⟨h.o0.base hb, h.o1.base hb, h.wf, h.le0, h.le1⟩
theorem PoO.setLow {B D j : Nat} {w : World} {v0 v1 u : Value} {S : List (Nat × Nat)} {L : List Ls} (h : PoO B w v0 v1 S L) (hD : D < B) : PoO B (w.setCell ⟨D, j, none⟩ u) v0 v1 S L :=
  ⟨h.o0.setLow hD, h.o1.setLow hD, h.wf, h.le0, h.le1⟩
theorem PoO.nil (B : Nat) (w : World) : PoO B w (.slice none 0 0) (.slice none 0 0) [] [] := ⟨OR.nil _ _ _ _, OR.nil _ _ _ _, (fun _ h => by cases h), by simp, by simp⟩
theorem lease_cells {w : World} {B : Nat} {a : Option Addr} {cap : Nat} {L : List Ls} {i : Nat} (h : OR w B 52 4 (.slice a L.length cap) L.length (rowL L)) (hi : i < L.length) :
    ∃ g, a = some ⟨g, 0, none⟩ ∧ B ≤ g ∧ w.cell? ⟨g, i * 4, none⟩ = some (.int .i64 (lsS L[i])) ∧ w.cell? ⟨g, i * 4 + 1, none⟩ = some (.int .i64 (lsC L[i])) ∧ w.cell? ⟨g, i * 4 + 2, none⟩ = some (.int .i64 (lsR L[i])) ∧ w.cell? ⟨g, i * 4 + 3, none⟩ = some (.bool (lsF L[i])) := by
  have h := h.own (by omega)
  rcases row_val h with ⟨-, h0⟩ | ⟨g, cap', hv, hB, -⟩
  · omega
  · injection hv with e1 _ e3
    subst e1 e3
    have c := fun j (hj : j < 4) => (h.cellAt (i * 4 + j) (by omega)).trans (rowL_at hi hj)
    exact ⟨g, rfl, hB, c 0 (by decide), c 1 (by decide), c 2 (by decide), c 3 (by decide)⟩
theorem samp_cell {w : World} {B : Nat} {a : Option Addr} {n cap : Nat} {S : List (Nat × Nat)} {i : Nat} (h : OR w B 37 1 (.slice a n cap) n (S.map cx)) (hi : i < S.length) :
    ∃ g, a = some ⟨g, 0, none⟩ ∧ B ≤ g ∧ w.cell? ⟨g, i, none⟩ = some (.complex .f32 S[i].1 S[i].2) := by
  have hl : S.length = n := by simpa using h.len
  have h := h.own (by omega)
  rcases row_val h with ⟨-, h0⟩ | ⟨g, cap', hv, hB, -⟩
  · omega
  · injection hv with e1 _ e3
    subst e1 e3
    refine ⟨g, rfl, hB, ?_⟩
    rw [h.cellAt i (by omega), List.getElem?_map, List.getElem?_eq_getElem hi]
    rfl
end Go.Proofs.Ytmfgffgfggkgcaa
