/-
  copy as one step of a region: the cells are set one by one; nothing is asked of the pointers where nothing goes over.
-/
import Derived.Test.YtmfgffgfggkgcaaAppP
import Derived.Laws.IdiomCopy
import Derived.Deep.RegionLaw
namespace Go.Proofs.Ytmfgffgfggkgcaa
open Go.RowKit
section
variable {P : Program} {w : World}
theorem run_copy_any (dT sT ty elem : TypeId) (hu : P.underlying dT = some (.slice elem)) (hsz : (P.info? elem).map (·.size) = some 1)
    (dp sp : Option Addr) (dLen dCap sLen sCap : Nat) (g off : Nat) (cs : List Value) (hn : cs.length = Nat.min sLen dLen)
    (hpos : 0 < cs.length → dp = some ⟨g, off, none⟩ ∧ ∃ ad, sp = some ad ∧ ∀ j v, cs[j]? = some v → w.cell? (ad.add j) = some v)
    (hc : ∀ j, j < cs.length → (w.cell? ⟨g, off + j, none⟩).isSome = true) (hf : ∀ j, j < cs.length → w.frozen? ⟨g, off + j, none⟩ = false) (h1 : ∀ v ∈ cs, v.oneCell' = true) :
    (Builtin.copy_ #[dT, sT] ty #[.slice dp dLen dCap, .slice sp sLen sCap]).run P w = .ok (goInt cs.length) (w.setCells g off cs) := by
  by_cases h0 : cs.length = 0
  · obtain rfl : cs = [] := List.eq_nil_of_length_eq_zero h0
    exact run_copy_none (P := P) w dT sT ty elem dp sp dLen dCap sLen sCap hu hsz (by simpa using hn.symm)
  · obtain ⟨rfl, ad, rfl, hsrc⟩ := hpos (by omega)
    exact run_copy_cells w dT sT ty elem g off dLen dCap ad sLen sCap cs hu hsz hn hsrc hc hf h1
theorem step_copy_any {ops : Array Oper} {o : Oper} {a : Act} {K : Act → World → Prop} {Q : Exit → Act → World → Prop} {E : Prop} (hgd : o.guard = none) (d s : Operand) (dT sT : TypeId)
    (ho : o.op = .call { callee := .builtin .copy, args := #[d, s], argTypes := #[dT, sT] }) (elem : TypeId) (hu : P.underlying dT = some (.slice elem)) (hsz : (P.info? elem).map (·.size) = some 1)
    (dp sp : Option Addr) (dLen dCap sLen sCap : Nat) (hd : a.eval d = .slice dp dLen dCap) (hs : a.eval s = .slice sp sLen sCap) (g off : Nat) (cs : List Value) (hn : cs.length = Nat.min sLen dLen)
    (hpos : 0 < cs.length → dp = some ⟨g, off, none⟩ ∧ ∃ ad, sp = some ad ∧ ∀ j v, cs[j]? = some v → w.cell? (ad.add j) = some v)
    (hc : ∀ j, j < cs.length → (w.cell? ⟨g, off + j, none⟩).isSome = true) (hf : ∀ j, j < cs.length → w.frozen? ⟨g, off + j, none⟩ = false) (h1 : ∀ v ∈ cs, v.oneCell' = true)
    (h : K (a.put o.dst (goInt cs.length)) (w.setCells g off cs)) :
    if Region.wanted o (yielded ops a.tmps) = true then Oper.wp P o a w K Q else E := by
  have hw : Region.wanted o (yielded ops a.tmps) = true := by simp [Region.wanted, hgd]
  rw [if_pos hw]
  have hrun := run_copy_any (P := P) (w := w) dT sT o.type elem hu hsz dp sp dLen dCap sLen sCap g off cs hn hpos hc hf h1
  unfold Oper.wp
  simp [execOp, ho, resolve, invoke, builtin, hd, hs, hrun, Result.andThen]
  exact h
end
/-- Samples copied into a store that a variable's pool has. -/
theorem PV.put {w y : World} {v0 v1 u1 : Value} {D B g n ca : Nat} {S : List (Nat × Nat)} {L : List Ls} {Z : List (Nat × Nat)} {o : Nat} (h : PV w v0 v1 D B (.slice (some ⟨g, 0, none⟩) n ca) u1 S L y) (ho : o + Z.length ≤ S.length) (hn : n = S.length)
    (hz : ∀ p ∈ Z, p.1 < 4294967296 ∧ p.2 < 4294967296) :
    PV w v0 v1 D B (.slice (some ⟨g, 0, none⟩) n ca) u1 (putS S o Z) L (y.setCells g o (Z.map cx)) := by
  induction Z generalizing S o y with
  | nil => exact h
  | cons z Z ih =>
    rw [List.length_cons] at ho
    rw [List.map_cons, World.setCells, putS]
    exact ih (h.samp (by omega) hn z (hz z (List.mem_cons_self ..))) (by rw [List.length_set]; omega) (by rw [List.length_set]; exact hn) (fun p hp => hz p (List.mem_cons_of_mem _ hp))
end Go.Proofs.Ytmfgffgfggkgcaa
