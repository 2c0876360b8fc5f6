/-
  A slice of numbers of single precision that came in, and a slice of bytes, as data: what the memory holds. No condition.
-/
import Derived.Test.YtmfgffgfggkgcaaSl
import Derived.ProofKit
import Derived.ChangeOld
import Derived.ChangeSlices
namespace Go.Proofs.Ytmfgffgfggkgcaa
open Go Go.RowKit Go.ChangeShapes Go.WideShapes

section
variable {H : Type} {enc : TypeId × Value → H} {P : Program} {w : World}
theorem trod_float1 {e : TypeId} {k : FloatKind} {n : Nat} {cs : List Value} {y : DataW H × List MemPlace} {base : Nat} {spare : Nat → Bool} {held : Bool} (he : P.underlying e = some (.float k))
    (h : DataW.trod enc P w base spare held n e cs = some y) : ∃ b, cs = [.float k b] ∧ y = (.lit (.float k b), []) ∧ (Lit.float k b).wf = true := by
  cases n with
  | zero => simp [DataW.trod] at h
  | succ n =>
    simp only [DataW.trod, he] at h
    match cs, h with
    | [.float k' b], h =>
      by_cases hk : k' = k
      · subst hk
        by_cases hw : (Lit.float k' b).wf = true
        · simp [hw] at h
          exact ⟨b, rfl, h.symm, hw⟩
        · simp [hw] at h
      · simp [hk] at h
def wordOfData (y : DataW H × List MemPlace) : Nat := match y.1 with | .lit (.float _ b) => b | _ => 0

theorem isFloats_of {t e : TypeId} {a : Option Addr} {len cap : Nat} {d : DataW H} {ps : List MemPlace} (ht : P.underlying t = some (.slice e)) (he : P.underlying e = some (.float .f32)) (hc : P.cellsOf e = 1)
    (h : DataW.Trod enc P w 0 (fun _ => true) true t (.slice a len cap) d ps) : ∃ zs, IsFloats w a len cap zs := by
  obtain ⟨fuel, h⟩ := h
  rcases DataW.trod_slice ht h with h0 | ⟨x, len', cap', elems, rest, n, _, hv, _, hb, hl, hm, hlen, hel, hsp, hns⟩
  · obtain ⟨h1, _⟩ := h0
    simp [Value.cells] at h1
    obtain ⟨rfl, rfl, rfl⟩ := h1
    exact ⟨[], .inl ⟨rfl, rfl, rfl, rfl⟩⟩
  · simp [Value.cells] at hv
    obtain ⟨rfl, rfl, rfl⟩ := hv
    refine ⟨(elems ++ rest).map wordOfData, .inr ⟨_, rfl, hl, hm, ?_, ?_⟩⟩
    · obtain ⟨hrl, _⟩ := hsp rfl
      simp only [List.length_map, List.length_append, hlen, hrl]; omega
    · intro i hi
      obtain ⟨hrl, hr⟩ := hsp rfl
      rw [List.length_map] at hi
      have hb' : (w.cells? 0 (x.add (i * P.cellsOf e)) (P.cellsOf e)).bind (DataW.trod enc P w 0 (fun _ => true) true n e) = some (elems ++ rest)[i] := by
        by_cases hil : i < len
        · rw [hel i hil, ← List.getElem?_append_left (l₂ := rest) (by omega)]
          exact List.getElem?_eq_getElem hi
        · have := hr (i - len) (by rw [List.length_append] at hi; omega)
          rw [show len + (i - len) = i by omega] at this
          rw [this, ← hlen, ← List.getElem?_append_right (by omega)]
          exact List.getElem?_eq_getElem hi
      rw [hc, Nat.mul_one, Option.bind_eq_some_iff] at hb'
      obtain ⟨cs', hcs, hy'⟩ := hb'
      obtain ⟨m, rfl, hy, _⟩ := trod_float1 he hy'
      have e1 : ((elems ++ rest).map wordOfData).getD i 0 = m := by
        rw [List.getD_eq_getElem?_getD, List.getElem?_map, List.getElem?_eq_getElem hi, hy]; rfl
      rw [e1]
      exact cell_of_cells?_one hcs

theorem isRow_of {t e : TypeId} {a : Option Addr} {len cap : Nat} {d : DataW H} {ps : List MemPlace} (ht : P.underlying t = some (.slice e)) (he : P.underlying e = some (.int .u8)) (hc : P.cellsOf e = 1)
    (h : DataW.Trod enc P w 0 (fun _ => true) true t (.slice a len cap) d ps) : ∃ zs, IsRow w a len cap zs := by
  obtain ⟨fuel, hf⟩ := h
  rcases open_ints ht he hc hf with ⟨hcs, _⟩ | ⟨x, l, c, zs, hcs, _, hl, hm, hz, _, hcell, hwz⟩
  · simp [Value.cells] at hcs
    obtain ⟨rfl, rfl, rfl⟩ := hcs
    exact ⟨[], .inl ⟨rfl, rfl, rfl, rfl⟩⟩
  · simp [Value.cells] at hcs
    obtain ⟨rfl, rfl, rfl⟩ := hcs
    exact ⟨zs, .inr ⟨_, rfl, hl, hm, by simpa using hz, hcell, hwz⟩⟩
end
end Go.Proofs.Ytmfgffgfggkgcaa
