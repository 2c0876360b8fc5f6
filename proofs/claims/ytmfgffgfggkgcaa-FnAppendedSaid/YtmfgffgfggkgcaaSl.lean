/-
  Slices of one-cell elements in memory: what they hold, that it stays while only other blocks are written. No program in sight.
-/
import Derived.WalkKit
import Derived.Deep.Draws
import Derived.WalkSmall
import Derived.Lib.Hide
namespace Go.Proofs.Ytmfgffgfggkgcaa
open Go Go.RowKit

section
variable {P : Program} (w : World) (a : Addr) (m : Mode)
@[go_sem] theorem run_store_float (k : FloatKind) (x : Nat) : (store a (.float k x) m).run P w = stored P w a (.float k x) m := run_store P w a _ m rfl
@[go_sem] theorem run_store_complex (k : FloatKind) (x y : Nat) : (store a (.complex k x y) m).run P w = stored P w a (.complex k x y) m := run_store P w a _ m rfl
end

/-- The cells from an address on hold these values. -/
def Holds (w : World) (b off : Nat) (xs : List Value) : Prop := ∀ i, i < xs.length → w.cell? ⟨b, off + i, none⟩ = xs[i]?

/-- A slice of so many elements holds these values. -/
def SlAt (w : World) (a : Option Addr) (len : Nat) (xs : List Value) : Prop :=
  xs.length = len ∧ (len = 0 ∨ ∃ b off, a = some ⟨b, off, none⟩ ∧ Holds w b off xs)

theorem cell_lt {w : World} {b o : Nat} {v : Value} (h : w.cell? ⟨b, o, none⟩ = some v) : b < w.heap.size := by
  unfold World.cell? at h
  split at h
  · rename_i hb
    exact (Array.getElem?_eq_some_iff.1 hb).1
  · cases h

theorem Holds.at {w : World} {b off : Nat} {xs : List Value} (h : Holds w b off xs) {i : Nat} (hi : i < xs.length) : w.cell? ⟨b, off + i, none⟩ = some xs[i] := by
  rw [h i hi, List.getElem?_eq_getElem hi]
theorem Holds.lt {w : World} {b off : Nat} {xs : List Value} (h : Holds w b off xs) (hn : 0 < xs.length) : b < w.heap.size := cell_lt (h.at hn)
theorem Holds.below {w w' : World} {b off B : Nat} {xs : List Value} (h : Holds w b off xs) (hb : Below B w w') (hB : b < B) : Holds w' b off xs := fun i hi => by
  rw [hb.cell (p := ⟨b, off + i, none⟩) hB]; exact h i hi
theorem Holds.drewN {w : World} {b off n : Nat} {xs : List Value} (h : Holds w b off xs) : Holds (w.drewN n) b off xs := h
theorem SlAt.below {w w' : World} {a : Option Addr} {len : Nat} {xs : List Value} (h : SlAt w a len xs) (hb : Below w.heap.size w w') : SlAt w' a len xs := by
  refine ⟨h.1, ?_⟩
  rcases h.2 with h0 | ⟨b, off, rfl, hh⟩
  · exact .inl h0
  · by_cases h0 : len = 0
    · exact .inl h0
    · exact .inr ⟨b, off, rfl, hh.below hb (hh.lt (by rw [h.1]; omega))⟩
theorem SlAt.drewN {w : World} {a : Option Addr} {len n : Nat} {xs : List Value} (h : SlAt w a len xs) : SlAt (w.drewN n) a len xs := h

/-- What a call owns reads so. -/
theorem holds_of_owns {w : World} {base e g n cap : Nat} {xs : List Value} (h : w.ownsRow base e 1 (.slice (some ⟨g, 0, none⟩) n cap) n xs) : Holds w g 0 xs := fun i hi => by
  have := h.1
  rw [Nat.zero_add, h.cellAt i (by omega)]

theorem below_drewN' {B : Nat} {a w : World} {n : Nat} (h : Below B a w) : Below B a (w.drewN n) := below_drewN h n

/-- The first k of a list copied over zeros. -/
theorem set_copy {xs : List Value} {z : Value} {k : Nat} (hk : k < xs.length) :
    (xs.take k ++ List.replicate (xs.length - k) z).set k xs[k] = xs.take (k + 1) ++ List.replicate (xs.length - (k + 1)) z := by
  rw [List.take_succ_eq_append_getElem hk, List.append_assoc]
  have hl : (xs.take k).length = k := by rw [List.length_take]; omega
  rw [List.set_append_right _ _ (by omega), hl, Nat.sub_self]
  obtain ⟨m, hm⟩ : ∃ m, xs.length - k = m + 1 := ⟨xs.length - k - 1, by omega⟩
  rw [hm, show xs.length - (k + 1) = m by omega, List.replicate_succ]
  rfl

/-- A slice of numbers of single precision that came in. -/
def IsFloats (w : World) (a : Option Addr) (len cap : Nat) (zs : List Nat) : Prop :=
  (a = none ∧ len = 0 ∧ cap = 0 ∧ zs = []) ∨
  ∃ x, a = some x ∧ len ≤ cap ∧ cap ≤ maxLen ∧ zs.length = cap ∧ ∀ i, i < zs.length → w.cell? (x.add i) = some (.float .f32 (zs.getD i 0))
theorem IsFloats.slAt {w : World} {a : Option Addr} {len cap : Nat} {zs : List Nat} (h : IsFloats w a len cap zs) :
    SlAt w a len ((zs.take len).map (.float .f32)) ∧ len ≤ cap ∧ cap ≤ maxLen := by
  rcases h with ⟨rfl, rfl, rfl, rfl⟩ | ⟨x, rfl, h1, h2, h3, h4⟩
  · exact ⟨⟨rfl, .inl rfl⟩, by omega, by unfold maxLen; omega⟩
  · refine ⟨⟨by simp; omega, ?_⟩, h1, h2⟩
    by_cases h0 : len = 0
    · exact .inl h0
    · obtain ⟨b, off, spot⟩ := x
      have hc := h4 0 (by omega)
      have hs : spot = none := by simpa [Addr.add] using World.cell?_spot hc
      subst hs
      refine .inr ⟨b, off, rfl, fun i hi => ?_⟩
      have hi' : i < len := by simp at hi; omega
      have := h4 i (by omega)
      have ha : (⟨b, off, none⟩ : Addr).add i = ⟨b, off + i, none⟩ := by unfold Addr.add; split <;> simp_all
      rw [ha] at this
      rw [this, List.getElem?_map, List.getElem?_take, if_pos hi', List.getD_eq_getElem?_getD, List.getElem?_eq_getElem (by omega)]
      rfl
/-- A slice of bytes that came in. -/
def IsRow (w : World) (a : Option Addr) (len cap : Nat) (zs : List Int) : Prop :=
  (a = none ∧ len = 0 ∧ cap = 0 ∧ zs = []) ∨
  ∃ x, a = some x ∧ len ≤ cap ∧ cap ≤ maxLen ∧ zs.length = cap ∧ (∀ i, i < zs.length → w.cell? (x.add i) = some (.int .u8 (zs.getD i 0))) ∧ ∀ n ∈ zs, (Lit.int .u8 n).wf = true
end Go.Proofs.Ytmfgffgfggkgcaa
