/-
  Samples appended one by one: plain; and a variable that holds a pool.
-/
import Derived.Test.YtmfgffgfggkgcaaAwI
import Derived.Test.YtmfgffgfggkgcaaPTxt
import Derived.Test.YtmfgffgfggkgcaaPo3
import Derived.Test.YtmfgffgfggkgcaaAt
namespace Go.Proofs.Ytmfgffgfggkgcaa
open Go.RowKit
theorem endAt_more {L : List Ls} {k i : Nat} (hk : k < L.length) (h : 0 ≤ lsS L[k] + lsC L[k]) : endAt (moreL L k i) k = endAt L k + i := by
  unfold endAt
  rw [Int.toNat_natCast, moreL_getD hk, List.getD_eq_getElem?_getD, List.getElem?_eq_getElem hk, Option.getD_some]
  show (lsS L[k] + (lsC L[k] + (i : Int))).toNat = _
  omega
/-- Behind i samples there is room for one more, where all fit. -/
theorem appOk_more {n m i : Nat} {L : List Ls} {id : Int} (h : appOk n L id m = true) (hi : i < m) : appOk n (moreL L id i) id 1 = true := by
  have h0 : appOk n L id i = true := by
    unfold appOk at h ⊢
    rw [Bool.and_eq_true, decide_eq_true_eq] at h ⊢
    exact ⟨h.1, by omega⟩
  have hp := pool_more h0
  unfold appOk at h
  rw [Bool.and_eq_true, decide_eq_true_eq] at h
  obtain ⟨hl, hm⟩ := h
  obtain ⟨k, hk, rfl, -, hok, hf⟩ := lentP_at hl
  rw [getD_at hk] at hm
  unfold appOk lentP
  rw [Int.toNat_natCast, moreL_getD hk, hp, moreL_len]
  simp only [Bool.and_eq_true, decide_eq_true_eq, Bool.true_and, Bool.not_eq_true']
  exact ⟨⟨by omega, by omega, hf⟩, by show ((1 : Nat) : Int) ≤ lsR L[k] - (lsC L[k] + (i : Int)); omega⟩
/-- The samples that were appended so far, and those that are still to come. -/
theorem appS_step {n m i : Nat} {L : List Ls} {id : Int} {Si T Z : List (Nat × Nat)} (h : appOk n L id m = true) (hi : i < Z.length) (hT : putS Si (endAt L id + i) (Z.drop i) = T) :
    putS (appS Si (moreL L id i) id [Z[i]]) (endAt L id + (i + 1)) (Z.drop (i + 1)) = T ∧ moreL (moreL L id i) id 1 = moreL L id (i + 1) := by
  unfold appOk at h
  rw [Bool.and_eq_true] at h
  obtain ⟨k, hk, rfl, -, hok, hf⟩ := lentP_at h.1
  have hr := in_room hok hf
  refine ⟨?_, moreL_more hk⟩
  rw [← hT, List.drop_eq_getElem_cons hi]
  unfold appS
  rw [endAt_more hk (by omega)]
  rfl
theorem small_of_pool {n : Nat} {L : List Ls} (h : isPoolP n L = true) : ∀ l ∈ L, lsSmall l := by
  intro l hl
  unfold isPoolP at h
  simp only [Bool.and_eq_true, decide_eq_true_eq, oks] at h
  have hk := h.2.2.1 l hl
  have hn := h.1
  unfold okL at hk
  unfold lsSmall
  split at hk <;> omega
theorem more_zero {n m : Nat} {L : List Ls} {id : Int} (h : appOk n L id m = true) : moreL L id 0 = L := by
  unfold appOk at h
  rw [Bool.and_eq_true] at h
  obtain ⟨k, hk, rfl, -⟩ := lentP_at h.1
  exact moreL_zero hk
/-- A variable at D that holds a pool, made since w. -/
structure VarP (w : World) (D : Nat) (v0 v1 : Value) (S : List (Nat × Nat)) (L : List Ls) (y : World) : Prop where
  bel : Below w.heap.size w y
  row : y.heap[D]? = some (.cells #[v0, v1] 25 (0, 0))
  po : PoO w.heap.size y v0 v1 S L
  hD : w.heap.size ≤ D
section
variable {w y y' : World} {v0 v1 u0 u1 : Value} {D E : Nat} {S S' : List (Nat × Nat)} {L L' : List Ls}
theorem VarP.lt (h : VarP w D v0 v1 S L y) : D < y.heap.size := (Array.getElem?_eq_some_iff.1 h.row).1
theorem VarP.keep (h : VarP w D v0 v1 S L y) (hb : Below y.heap.size y y') : VarP w D v0 v1 S L y' :=
  ⟨bel_go h.bel hb, (hb.block _ h.lt).trans h.row, h.po.below hb, h.hD⟩
theorem VarP.new (hb : Below w.heap.size w y) (o : PoO w.heap.size y v0 v1 S L) : VarP w y.heap.size v0 v1 S L (y.alloc (.cells #[v0, v1] 25)) :=
  ⟨hb.alloc hb.size _, heap_new _ _, o.below (bel_one _ _), hb.size⟩
theorem VarP.cells (h : VarP w D v0 v1 S L y) : y.cell? ⟨D, 0, none⟩ = some v0 ∧ y.cell? ⟨D, 1, none⟩ = some v1 ∧ y.frozen? ⟨D, 0, none⟩ = false ∧ y.frozen? ⟨D, 1, none⟩ = false :=
  ⟨cell_of_row _ _ 0 _ _ _ h.row, cell_of_row _ _ 1 _ _ _ h.row, frozen_of_row _ _ 0 _ _ h.row, frozen_of_row _ _ 1 _ _ h.row⟩
/-- Another such variable is written. -/
theorem VarP.other {cs : Array Value} (h : VarP w D v0 v1 S L y) (hE : y.heap[E]? = some (.cells cs 25 (0, 0))) (hw : w.heap.size ≤ E) (hne : D ≠ E) (a b : Value) : VarP w D v0 v1 S L ((y.setCell ⟨E, 0, none⟩ a).setCell ⟨E, 1, none⟩ b) :=
  ⟨(h.bel.setCell hw _).setCell hw _, (set2_ne _ hne).trans h.row, h.po.set2 hE, h.hD⟩
/-- It is written itself. -/
theorem VarP.store (h : VarP w D v0 v1 S L y) (o : PoO w.heap.size y u0 u1 S' L') : VarP w D u0 u1 S' L' ((y.setCell ⟨D, 0, none⟩ u0).setCell ⟨D, 1, none⟩ u1) := by
  have r0 := heap_setCell_same _ _ 0 _ _ u0 h.row
  have r1 := heap_setCell_same _ _ 1 _ _ u1 r0
  exact ⟨(h.bel.setCell h.hD _).setCell h.hD _, r1, o.set2 h.row, h.hD⟩
end
/-- A row behind a write into a pool's variable. -/
theorem OR.set2 {y : World} {B e sz n E : Nat} {v a b : Value} {xs : List Value} {cs : Array Value} (h : OR y B e sz v n xs) (hE : y.heap[E]? = some (.cells cs 25 (0, 0))) (hne : e ≠ 25) :
    OR ((y.setCell ⟨E, 0, none⟩ a).setCell ⟨E, 1, none⟩ b) B e sz v n xs := by
  have q0 := heap_setCell_same _ _ 0 _ _ a hE
  exact (h.setObj hE hne).setObj q0 hne
theorem lit_one (y : World) (B : Nat) (hB : B ≤ y.heap.size) (z : Nat × Nat) : OR (y.alloc (.cells #[.complex .f32 z.1 z.2] 37)) B 37 1 (.slice (some ⟨y.heap.size, 0, none⟩) 1 1) 1 ([z].map cx) :=
  .inr (World.ownsRow_lit y #[.complex .f32 z.1 z.2] 1 hB (by decide) rfl)
theorem CodeAt.keep {w w' : World} {a : Option Addr} {n : Nat} {xs : List Value} (h : CodeAt w a n xs) (hb : Below w.heap.size w w') : CodeAt w' a n xs := ⟨h.1.below hb, h.2⟩
/-- laws.at gives the same number in every world that holds the code. -/
theorem at_fix {w0 : World} (a : Option Addr) (len cap : Nat) (xs : List Value) (i : Nat) (h0 : CodeAt w0 a len xs) (hl : len ≤ 1048576) (hi : i ≤ 1048576) :
    ∃ x : Nat, ∀ w, CodeAt w a len xs → Calls Try.prog 11 #[.slice a len cap, .int .i64 i] w fun e w' => e = .returned (.int .i64 x) ∧ w' = w := by
  by_cases hlt : i < len
  · obtain ⟨u, hu, hxu⟩ := IsBytes_lt h0.2.1 (i := i) (by rw [h0.1.1]; exact hlt)
    have hx2 : xs[i]? = some (.int .u8 u) := by rw [List.getElem?_eq_getElem (by rw [h0.1.1]; exact hlt), hxu]; rfl
    clear hxu h0
    refine ⟨u, fun w hx => ?_⟩
    rcases hx.1.2 with h | ⟨b, off, rfl, hh⟩
    · omega
    · have hcx : w.cell? ⟨b, off + i, none⟩ = some (.int .u8 u) := by rw [hh i (by rw [hx.1.1]; exact hlt), hx2]
      have hlt' : (i : Int) < (len : Int) := by omega
      clear hx hx2 hh
      go_enter Try.func11, Try.ntmps11
      go_wp2_with fail
      go_ret
      exact ⟨rfl, rfl⟩
  · have hlt' : ¬ (i : Int) < (len : Int) := by omega
    clear h0
    obtain ⟨x, hx⟩ : ∃ x : Nat, (x : Int) = ((i : Int) * 37 + (len : Int) * 11) % 256 := ⟨_, Int.toNat_of_nonneg (Int.emod_nonneg _ (by decide))⟩
    have HE := Lib.hid hx
    clear hx
    refine ⟨x, fun w hx => ?_⟩
    clear hx
    go_enter Try.func11, Try.ntmps11
    go_wp2_with fail
    go_ret
    exact ⟨ret_int HE.out.symm, rfl⟩
end Go.Proofs.Ytmfgffgfggkgcaa
