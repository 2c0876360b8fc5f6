/-
  append to an empty slice without room, of elements of any size: the row lies in a block of its own, or is empty.
-/
import Derived.Test.YtmfgffgfggkgcaaPoS
import Derived.Test.YtmfgffgfggkgcaaRow
import Derived.Maps.AppendAt
namespace Go.Proofs.Ytmfgffgfggkgcaa
open Go.RowKit
/-- Where the cells of an append come from. -/
def SrcAt (w : World) (sz : Nat) (ad : Option Addr) (m : Nat) (news : List Value) : Prop := news.length = m * sz ∧ (m = 0 ∨ ∃ b off, ad = some ⟨b, off, none⟩ ∧ Holds w b off news)
theorem SrcAt.below {w w' : World} {sz m : Nat} {ad : Option Addr} {news : List Value} (h : SrcAt w sz ad m news) (hs : 0 < sz) (hb : Below w.heap.size w w') : SrcAt w' sz ad m news := by
  refine ⟨h.1, ?_⟩
  rcases h.2 with h0 | ⟨b, off, rfl, hh⟩
  · exact .inl h0
  · by_cases h0 : m = 0
    · exact .inl h0
    · have : 0 < news.length := by rw [h.1]; exact Nat.mul_pos (by omega) hs
      exact .inr ⟨b, off, rfl, hh.below hb (hh.lt this)⟩
theorem OR.src {w : World} {B e sz n cap : Nat} {a : Option Addr} {xs : List Value} (h : OR w B e sz (.slice a n cap) n xs) : SrcAt w sz a n xs := by
  refine ⟨h.len, ?_⟩
  by_cases h0 : n = 0
  · exact .inl h0
  · have h := h.own (by omega)
    rcases row_val h with ⟨-, hz⟩ | ⟨g, cap', hv, -⟩
    · exact absurd hz h0
    · injection hv with e1 _ e3
      subst e1 e3
      refine .inr ⟨g, 0, rfl, fun i hi => ?_⟩
      have := h.1
      rw [Nat.zero_add, h.cellAt i (by omega)]
section
variable {P : Program} {w : World}
theorem run_append_or (t ty e : TypeId) (i : TypeInfo) (z : Value) (sz bytes : Nat) (ht : P.underlying t = some (.slice e)) (hi : P.info? e = some i) (hz : i.zero = some z)
    (hsize : i.size = sz) (hby : i.bytes = bytes) (hzs : z.cells.size = sz) (b : Addr) (ad : Option Addr) (m c : Nat) (news : List Value) (hsrc : SrcAt w sz ad m news)
    (h63 : m ≤ maxLen) (hbytes : m * bytes ≤ 140737488355328) (base : Nat) (hbase : base ≤ w.heap.size) :
    ∃ a' cap w', (Builtin.append_ #[t, t] ty #[.slice (some b) 0 0, .slice ad m c]).run P w = .ok (.slice (some a') m cap) w' ∧ OR w' base e sz (.slice (some a') m cap) m news ∧ Below w.heap.size w w' := by
  subst hby
  subst hsize
  have hsmall : m ≤ 9223372036854775807 := by simp only [maxLen] at h63; omega
  by_cases h0 : m = 0
  · subst h0
    have hr : (Builtin.append_ #[t, t] ty #[.slice (some b) 0 0, .slice ad 0 c]).run P w = .ok (.slice (some b) 0 0) w := by
      cases ad <;> simp [Builtin.append_, run_underlying ht, sizeOf, typeInfo, hi, Builtin.lenOf, Builtin.firstCells, loadCells, loadCellsFrom, storeCells]
    exact ⟨b, 0, w, hr, .inl ⟨b, rfl, rfl, List.eq_nil_of_length_eq_zero (by simpa using hsrc.1)⟩, Below.refl _ _⟩
  · rcases hsrc.2 with h | ⟨b', off, rfl, hh⟩
    · exact absurd h h0
    · have hr := run_append_grow (P := P) w t ty e i z ht hi hz b 0 0 [] (by simp) (fun j v h => by simp at h) ⟨b', off, none⟩ m c news hsrc.1 (fun j v h => by
          have hj : j < news.length := (List.getElem?_eq_some_iff.1 h).1
          rw [show (⟨b', off, none⟩ : Addr).add j = ⟨b', off + j, none⟩ by unfold Addr.add; split <;> simp_all, hh j hj, h]) (by omega) (by omega) (growslice_fits (by omega) (by rw [Nat.zero_add]; exact hbytes))
      simp only [Nat.zero_add] at hr
      have hge := grownCap_ge w m 0 e
      have hcm : grownCap w m 0 e ≤ maxLen := grownCap_le_maxLen w m 0 e h63
      refine ⟨_, _, _, hr, .inr ⟨hsrc.1, .inr ⟨w.heap.size, _, _, rfl, hbase, heap_alloc_new w.drew _, hge, hcm, ?_, ?_⟩⟩, ((Below.refl _ _).drew).alloc (Nat.le_refl _) _⟩
      · simp only [Array.size_append, List.size_toArray, size_zeroCells, hzs, hsrc.1, List.length_nil, Nat.zero_add, ← Nat.add_mul]
        congr 1
        omega
      · simp only [Array.toList_append, List.nil_append]
        rw [← hsrc.1]
        exact List.take_left
theorem wp_append_or {o : Oper} {a : Act} {K : Act → World → Prop} {Q : Exit → Act → World → Prop} (s x : Operand) (t : TypeId)
    (ho : o.op = .call { callee := .builtin .append, args := #[s, x], argTypes := #[t, t] })
    (e : TypeId) (i : TypeInfo) (z : Value) (sz bytes : Nat) (ht : P.underlying t = some (.slice e)) (hi : P.info? e = some i) (hz : i.zero = some z)
    (hsize : i.size = sz) (hby : i.bytes = bytes) (hzs : z.cells.size = sz) (b : Addr) (ad : Option Addr) (m c : Nat) (news : List Value) (hs : a.eval s = .slice (some b) 0 0) (hx : a.eval x = .slice ad m c)
    (h63 : m ≤ maxLen) (hbytes : m * bytes ≤ 140737488355328) (base : Nat) (hsrc : SrcAt w sz ad m news) (hbase : base ≤ w.heap.size)
    (h : ∀ a' cap w', OR w' base e sz (.slice (some a') m cap) m news → Below w.heap.size w w' → K (a.put o.dst (.slice (some a') m cap)) w') : Oper.wp P o a w K Q := by
  obtain ⟨a', cap, w', hr, h2, h3⟩ := run_append_or (P := P) t o.type e i z sz bytes ht hi hz hsize hby hzs b ad m c news hsrc h63 hbytes base hbase
  unfold Oper.wp execOp
  simp only [ho, resolve, invoke, builtin, Sem.run_bind, Sem.run_pure, Result.andThen_ok, List.map_toArray, List.map_cons, List.map_nil, hs, hx, hr]
  exact h a' cap w' h2 h3
theorem step_append_or {ops : Array Oper} {o : Oper} {a : Act} {K : Act → World → Prop} {Q : Exit → Act → World → Prop} {E : Prop} (hgd : o.guard = none) (s x : Operand) (t : TypeId)
    (ho : o.op = .call { callee := .builtin .append, args := #[s, x], argTypes := #[t, t] })
    (e : TypeId) (i : TypeInfo) (z : Value) (sz bytes : Nat) (ht : P.underlying t = some (.slice e)) (hi : P.info? e = some i) (hz : i.zero = some z)
    (hsize : i.size = sz) (hby : i.bytes = bytes) (hzs : z.cells.size = sz) (b : Addr) (ad : Option Addr) (m c : Nat) (news : List Value) (hs : a.eval s = .slice (some b) 0 0) (hx : a.eval x = .slice ad m c)
    (h63 : m ≤ maxLen) (hbytes : m * bytes ≤ 140737488355328) (base : Nat) (hsrc : SrcAt w sz ad m news) (hbase : base ≤ w.heap.size)
    (h : ∀ a' cap w', OR w' base e sz (.slice (some a') m cap) m news → Below w.heap.size w w' → K (a.put o.dst (.slice (some a') m cap)) w') :
    if Region.wanted o (yielded ops a.tmps) = true then Oper.wp P o a w K Q else E := by
  have hw : Region.wanted o (yielded ops a.tmps) = true := by simp [Region.wanted, hgd]
  rw [if_pos hw]
  exact wp_append_or s x t ho e i z sz bytes ht hi hz hsize hby hzs b ad m c news hs hx h63 hbytes base hsrc hbase h
theorem wpList_append_or {ops : Array Oper} {rest : List Oper} {o : Oper} {a : Act} {Q : Exit → Act → World → Prop} (hgd : o.guard = none) (s x : Operand) (t : TypeId)
    (ho : o.op = .call { callee := .builtin .append, args := #[s, x], argTypes := #[t, t] })
    (e : TypeId) (i : TypeInfo) (z : Value) (sz bytes : Nat) (ht : P.underlying t = some (.slice e)) (hi : P.info? e = some i) (hz : i.zero = some z)
    (hsize : i.size = sz) (hby : i.bytes = bytes) (hzs : z.cells.size = sz) (b : Addr) (ad : Option Addr) (m c : Nat) (news : List Value) (hs : a.eval s = .slice (some b) 0 0) (hx : a.eval x = .slice ad m c)
    (h63 : m ≤ maxLen) (hbytes : m * bytes ≤ 140737488355328) (base : Nat) (hsrc : SrcAt w sz ad m news) (hbase : base ≤ w.heap.size)
    (h : ∀ a' cap w', OR w' base e sz (.slice (some a') m cap) m news → Below w.heap.size w w' → wpList P ops Q rest (a.put o.dst (.slice (some a') m cap)) w') : wpList P ops Q (o :: rest) a w :=
  wpList_plain hgd fun _ hK => wp_append_or s x t ho e i z sz bytes ht hi hz hsize hby hzs b ad m c news hs hx h63 hbytes base hsrc hbase fun a' cap w' h2 h3 => hK _ _ (h a' cap w' h2 h3)
end
end Go.Proofs.Ytmfgffgfggkgcaa
