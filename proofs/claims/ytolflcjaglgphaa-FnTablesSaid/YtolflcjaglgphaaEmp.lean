/-
  append of a row to an empty slice without room: the row lies in a block of its own. No program in sight.
-/
import Derived.Test.YtolflcjaglgphaaSl
import Derived.Test.YtolflcjaglgphaaRow
namespace Go.Proofs.Ytolflcjaglgphaa
open Go Go.RowKit
section
variable {P : Program} {w : World}
theorem run_append_fresh (t ty e : TypeId) (i : TypeInfo) (z : Value) (bytes : Nat) (ht : P.underlying t = some (.slice e)) (hi : P.info? e = some i) (hz : i.zero = some z)
    (hsize : i.size = 1) (hby : i.bytes = bytes) (hzs : z.cells.size = 1) (b : Addr) (ad : Option Addr) (m c : Nat) (news : List Value) (hsrc : SlAt w ad m news) (hm : 0 < m)
    (h63 : m ≤ maxLen) (hbytes : m * bytes ≤ 140737488355328) (base : Nat) (hbase : base ≤ w.heap.size) :
    ∃ g cap w', (Builtin.append_ #[t, t] ty #[.slice (some b) 0 0, .slice ad m c]).run P w = .ok (.slice (some ⟨g, 0, none⟩) m cap) w' ∧ w'.ownsRow base e 1 (.slice (some ⟨g, 0, none⟩) m cap) m news ∧ Below w.heap.size w w' := by
  subst hby
  have hsmall : m ≤ 9223372036854775807 := by simp only [maxLen] at h63; omega
  rcases hsrc.2 with h | ⟨b', off, rfl, hh⟩
  · omega
  · have hr := run_append_grow (P := P) w t ty e i z ht hi hz b 0 0 [] (by simp) (fun j v h => by simp at h) ⟨b', off, none⟩ m c news (by rw [hsrc.1, hsize, Nat.mul_one]) (fun j v h => by
        have hj : j < news.length := (List.getElem?_eq_some_iff.1 h).1
        rw [show (⟨b', off, none⟩ : Addr).add j = ⟨b', off + j, none⟩ by unfold Addr.add; split <;> simp_all, hh j hj, h]) (by omega) (by omega) (growslice_fits (by omega) (by rw [Nat.zero_add]; exact hbytes))
    simp only [Nat.zero_add] at hr
    have hge := grownCap_ge w m 0 e
    have hcm : grownCap w m 0 e ≤ maxLen := grownCap_le_maxLen w m 0 e h63
    refine ⟨_, _, _, hr, ⟨by rw [hsrc.1]; simp, .inr ⟨w.heap.size, _, _, rfl, hbase, heap_alloc_new w.drew _, hge, hcm, ?_, ?_⟩⟩, ((Below.refl _ _).drew).alloc (Nat.le_refl _) _⟩
    · simp only [Array.size_append, List.size_toArray, size_zeroCells, hzs, hsrc.1, List.length_nil]
      omega
    · simp only [Array.toList_append, List.nil_append]
      rw [Nat.mul_one, ← hsrc.1]
      exact List.take_left
theorem run_append_none (t ty e : TypeId) (i : TypeInfo) (ht : P.underlying t = some (.slice e)) (hi : P.info? e = some i) (b : Addr) (ad : Option Addr) (c : Nat) :
    (Builtin.append_ #[t, t] ty #[.slice (some b) 0 0, .slice ad 0 c]).run P w = .ok (.slice (some b) 0 0) w := by
  cases ad <;> simp [Builtin.append_, run_underlying ht, sizeOf, typeInfo, hi, Builtin.lenOf, Builtin.firstCells, loadCells, loadCellsFrom, storeCells]
theorem step_append_fresh {ops : Array Oper} {o : Oper} {a : Act} {K : Act → World → Prop} {Q : Exit → Act → World → Prop} {E : Prop} (hgd : o.guard = none) (s x : Operand) (t : TypeId)
    (ho : o.op = .call { callee := .builtin .append, args := #[s, x], argTypes := #[t, t] })
    (e : TypeId) (i : TypeInfo) (z : Value) (bytes : Nat) (ht : P.underlying t = some (.slice e)) (hi : P.info? e = some i) (hz : i.zero = some z)
    (hsize : i.size = 1) (hby : i.bytes = bytes) (hzs : z.cells.size = 1) (b : Addr) (ad : Option Addr) (m c : Nat) (news : List Value) (hs : a.eval s = .slice (some b) 0 0) (hx : a.eval x = .slice ad m c) (hm : 0 < m)
    (h63 : m ≤ maxLen) (hbytes : m * bytes ≤ 140737488355328) (base : Nat) (hsrc : SlAt w ad m news) (hbase : base ≤ w.heap.size)
    (h : ∀ g cap w', w'.ownsRow base e 1 (.slice (some ⟨g, 0, none⟩) m cap) m news → Below w.heap.size w w' → K (a.put o.dst (.slice (some ⟨g, 0, none⟩) m cap)) w') :
    if Region.wanted o (yielded ops a.tmps) = true then Oper.wp P o a w K Q else E := by
  have hw : Region.wanted o (yielded ops a.tmps) = true := by simp [Region.wanted, hgd]
  rw [if_pos hw]
  obtain ⟨g, cap, w', hr, h2, h3⟩ := run_append_fresh (P := P) t o.type e i z bytes ht hi hz hsize hby hzs b ad m c news hsrc hm h63 hbytes base hbase
  unfold Oper.wp execOp
  simp only [ho, resolve, invoke, builtin, Sem.run_bind, Sem.run_pure, Result.andThen_ok, List.map_toArray, List.map_cons, List.map_nil, hs, hx, hr]
  exact h g cap w' h2 h3
theorem step_append_none {ops : Array Oper} {o : Oper} {a : Act} {K : Act → World → Prop} {Q : Exit → Act → World → Prop} {E : Prop} (hgd : o.guard = none) (s x : Operand) (t : TypeId)
    (ho : o.op = .call { callee := .builtin .append, args := #[s, x], argTypes := #[t, t] })
    (e : TypeId) (i : TypeInfo) (ht : P.underlying t = some (.slice e)) (hi : P.info? e = some i) (b : Addr) (ad : Option Addr) (c : Nat) (hs : a.eval s = .slice (some b) 0 0) (hx : a.eval x = .slice ad 0 c)
    (h : K (a.put o.dst (.slice (some b) 0 0)) w) :
    if Region.wanted o (yielded ops a.tmps) = true then Oper.wp P o a w K Q else E := by
  have hw : Region.wanted o (yielded ops a.tmps) = true := by simp [Region.wanted, hgd]
  rw [if_pos hw]
  have hr := run_append_none (P := P) (w := w) t o.type e i ht hi b ad c
  unfold Oper.wp execOp
  simp only [ho, resolve, invoke, builtin, Sem.run_bind, Sem.run_pure, Result.andThen_ok, List.map_toArray, List.map_cons, List.map_nil, hs, hx, hr]
  exact h
end
end Go.Proofs.Ytolflcjaglgphaa
