/-
  A variable that holds a pool of the call's own; GiveBack of the reference.
-/
import Derived.Test.YtmfgffgfggkgcaaCpP
namespace Go.Proofs.Ytmfgffgfggkgcaa
open Go.RowKit
theorem row_ne_type {w : World} {B B' e e' sz sz' n n' g : Nat} {v v' : Value} {xs xs' : List Value} (h : w.ownsRow B e sz v n xs) (h' : w.ownsRow B' e' sz' v' n' xs') (hne : e ≠ e') (hg : v'.ownBlock = some g) : some g ≠ v.ownBlock := by
  rcases h.2 with ⟨rfl, _⟩ | ⟨a, cap, cur, rfl, _, ha, _⟩
  · intro he; cases he
  · rcases h'.2 with ⟨rfl, _⟩ | ⟨b, cap', cur', rfl, _, hb, _⟩
    · cases hg
    · intro he
      injection hg with hg
      injection he with he
      simp only at hg he
      rw [hg, he, ha] at hb
      injection hb with hb
      injection hb with _ hb _
      exact hne hb
theorem row_ne_obj {w : World} {B e sz n D T : Nat} {v : Value} {xs : List Value} {c : Array Value} {fr : Nat × Nat} (h : w.ownsRow B e sz v n xs) (hr : w.heap[D]? = some (.cells c T fr)) (hne : e ≠ T) : some D ≠ v.ownBlock := by
  rcases h.2 with ⟨rfl, _⟩ | ⟨g, cap, cur, rfl, _, hg, _⟩
  · intro he; cases he
  · intro he
    injection he with he
    simp only at he
    rw [← he, hr] at hg
    injection hg with hg
    injection hg with _ hg _
    exact hne hg.symm
theorem OR.setObj {w : World} {B e sz n D T j : Nat} {v u : Value} {xs : List Value} {c : Array Value} {fr : Nat × Nat} (h : OR w B e sz v n xs) (hr : w.heap[D]? = some (.cells c T fr)) (hne : e ≠ T) : OR (w.setCell ⟨D, j, none⟩ u) B e sz v n xs :=
  h.imp id fun h => row_setCell h (row_ne_obj h hr hne)
theorem rowL_set {L : List Ls} {k : Nat} {l : Ls} (hk : k < L.length) :
    rowL (L.set k l) = ((((rowL L).set (k * 4) (.int .i64 (lsS l))).set (k * 4 + 1) (.int .i64 (lsC l))).set (k * 4 + 2) (.int .i64 (lsR l))).set (k * 4 + 3) (.bool (lsF l)) := by
  induction L generalizing k with
  | nil => simp at hk
  | cons x L ih =>
    cases k with
    | zero => simp [rowL, lsCells]
    | succ k =>
      have hl : (lsCells x).length = 4 := rfl
      rw [List.set_cons_succ, rowL, rowL, ih (by simpa using hk)]
      rw [List.set_append_right _ _ (by omega), List.set_append_right _ _ (by omega), List.set_append_right _ _ (by omega), List.set_append_right _ _ (by omega), hl]
      rw [show (k + 1) * 4 - 4 = k * 4 by omega, show (k + 1) * 4 + 1 - 4 = k * 4 + 1 by omega, show (k + 1) * 4 + 2 - 4 = k * 4 + 2 by omega, show (k + 1) * 4 + 3 - 4 = k * 4 + 3 by omega]
theorem PoO.setLease {B g k cb : Nat} {w : World} {v0 : Value} {S : List (Nat × Nat)} {L : List Ls} (h : PoO B w v0 (.slice (some ⟨g, 0, none⟩) L.length cb) S L) (hk : k < L.length) (s c r : Int) (f : Bool) :
    PoO B ((((w.setCell ⟨g, k * 4, none⟩ (.int .i64 s)).setCell ⟨g, k * 4 + 1, none⟩ (.int .i64 c)).setCell ⟨g, k * 4 + 2, none⟩ (.int .i64 r)).setCell ⟨g, k * 4 + 3, none⟩ (.bool f)) v0 (.slice (some ⟨g, 0, none⟩) L.length cb) S (L.set k (s, c, r, f)) := by
  have h1 := h.o1.own (by omega)
  refine ⟨?_, .inr ?_, h.wf, h.le0, by rw [List.length_set]; exact h.le1⟩
  · rcases h.o0 with hb | h0
    · exact .inl hb
    · have hne := row_ne_type h0 h1 (by decide) rfl
      exact .inr (row_setCell (row_setCell (row_setCell (row_setCell h0 hne) hne) hne) hne)
  · rw [rowL_set hk, List.length_set]
    exact ((((h1.stored (k * 4) (.int .i64 s)).1.stored (k * 4 + 1) (.int .i64 c)).1.stored (k * 4 + 2) (.int .i64 r)).1.stored (k * 4 + 3) (.bool f)).1
theorem PoO.setSamp {B g j n ca : Nat} {w : World} {v1 : Value} {S : List (Nat × Nat)} {L : List Ls} (h : PoO B w (.slice (some ⟨g, 0, none⟩) n ca) v1 S L) (hj : j < S.length) (hn : n = S.length) (z : Nat × Nat) (hz : z.1 < 4294967296 ∧ z.2 < 4294967296) :
    PoO B (w.setCell ⟨g, j, none⟩ (cx z)) (.slice (some ⟨g, 0, none⟩) n ca) v1 (S.set j z) L := by
  subst hn
  have h0 := h.o0.own (by omega)
  refine ⟨.inr ?_, ?_, ?_, by rw [List.length_set]; exact h.le0, h.le1⟩
  · rw [List.length_set, List.map_set]
    exact (h0.stored j (cx z)).1
  · rcases h.o1 with hb | h1
    · exact .inl hb
    · exact .inr (row_setCell h1 (row_ne_type h1 h0 (by decide) rfl))
  · intro p hp
    rcases List.mem_or_eq_of_mem_set hp with h' | rfl
    · exact h.wf p h'
    · exact hz
/-- The box of the argument, the cell of the result, and a variable at D that holds a pool. -/
structure PV (w : World) (v0 v1 : Value) (D B : Nat) (u0 u1 : Value) (S : List (Nat × Nat)) (L : List Ls) (y : World) : Prop where
  arg : PX w v0 v1 y
  row : y.heap[D]? = some (.cells #[u0, u1] 25 (0, 0))
  po : PoO B y u0 u1 S L
  hB : w.heap.size + 2 ≤ B
  hD : w.heap.size + 2 ≤ D
section
variable {w y y' : World} {v0 v1 u0 u1 : Value} {D B : Nat} {S : List (Nat × Nat)} {L : List Ls}
theorem PV.lt (h : PV w v0 v1 D B u0 u1 S L y) : D < y.heap.size := (Array.getElem?_eq_some_iff.1 h.row).1
theorem PV.keep (h : PV w v0 v1 D B u0 u1 S L y) (hb : Below y.heap.size y y') : PV w v0 v1 D B u0 u1 S L y' :=
  ⟨h.arg.keep hb, (hb.block _ h.lt).trans h.row, h.po.below hb, h.hB, h.hD⟩
theorem PV.cells (h : PV w v0 v1 D B u0 u1 S L y) : y.cell? ⟨D, 0, none⟩ = some u0 ∧ y.cell? ⟨D, 1, none⟩ = some u1 ∧ y.frozen? ⟨D, 0, none⟩ = false ∧ y.frozen? ⟨D, 1, none⟩ = false :=
  ⟨cell_of_row _ _ 0 _ _ _ h.row, cell_of_row _ _ 1 _ _ _ h.row, frozen_of_row _ _ 0 _ _ h.row, frozen_of_row _ _ 1 _ _ h.row⟩
theorem PV.start (h : PX w v0 v1 y) (hb : Below y.heap.size y y') (o : PoO y.heap.size y' u0 u1 S L) :
    PV w v0 v1 y'.heap.size y.heap.size u0 u1 S L (y'.alloc (.cells #[u0, u1] 25)) := by
  have := h.lt
  have := hb.size
  exact ⟨(h.keep hb).keep (bel_one _ _), heap_new _ _, o.below (bel_one _ _), by omega, by omega⟩
theorem PX.set (h : PX w v0 v1 y) {g j : Nat} (hg : w.heap.size + 2 ≤ g) (v : Value) : PX w v0 v1 (y.setCell ⟨g, j, none⟩ v) :=
  ⟨h.bel.setCell (by show _ ≤ g; omega) _, by rw [heap_setCell_other _ _ _ _ (show w.heap.size ≠ g by omega)]; exact h.box, by rw [heap_setCell_other _ _ _ _ (show w.heap.size + 1 ≠ g by omega)]; exact h.res⟩
theorem heap_set {w : World} {D g j : Nat} {o : Obj} (h : w.heap[D]? = some o) (hne : D ≠ g) (v : Value) : (w.setCell ⟨g, j, none⟩ v).heap[D]? = some o := by
  rw [heap_setCell_other _ _ _ _ hne]; exact h
theorem PV.lease {g k cb : Nat} (h : PV w v0 v1 D B u0 (.slice (some ⟨g, 0, none⟩) L.length cb) S L y) (hk : k < L.length) (s c r : Int) (f : Bool) :
    PV w v0 v1 D B u0 (.slice (some ⟨g, 0, none⟩) L.length cb) S (L.set k (s, c, r, f)) ((((y.setCell ⟨g, k * 4, none⟩ (.int .i64 s)).setCell ⟨g, k * 4 + 1, none⟩ (.int .i64 c)).setCell ⟨g, k * 4 + 2, none⟩ (.int .i64 r)).setCell ⟨g, k * 4 + 3, none⟩ (.bool f)) := by
  have h1 := h.po.o1.own (by omega)
  have hBg : B ≤ g := by
    rcases row_val h1 with ⟨he, _⟩ | ⟨g', c', he, hB, _⟩
    · cases he
    · cases he; exact hB
  have hB := h.hB
  have hne : D ≠ g := fun e => row_ne_obj h1 h.row (by decide) (by rw [e]; rfl)
  exact ⟨(((h.arg.set (by omega) _).set (by omega) _).set (by omega) _).set (by omega) _, heap_set (heap_set (heap_set (heap_set h.row hne _) hne _) hne _) hne _, h.po.setLease hk s c r f, h.hB, h.hD⟩
theorem PV.samp {g j n ca : Nat} (h : PV w v0 v1 D B (.slice (some ⟨g, 0, none⟩) n ca) u1 S L y) (hj : j < S.length) (hn : n = S.length) (z : Nat × Nat) (hz : z.1 < 4294967296 ∧ z.2 < 4294967296) :
    PV w v0 v1 D B (.slice (some ⟨g, 0, none⟩) n ca) u1 (S.set j z) L (y.setCell ⟨g, j, none⟩ (cx z)) := by
  have h1 := h.po.o0.own (by omega)
  have hBg : B ≤ g := by
    rcases row_val h1 with ⟨he, _⟩ | ⟨g', c', he, hB, _⟩
    · cases he
    · cases he; exact hB
  have hB := h.hB
  have hne : D ≠ g := fun e => row_ne_obj h1 h.row (by decide) (by rw [e]; rfl)
  exact ⟨h.arg.set (by omega) _, heap_set h.row hne _, h.po.setSamp hj hn z hz, h.hB, h.hD⟩
theorem PV.frozen {g n cb : Nat} (h : PV w v0 v1 D B u0 (.slice (some ⟨g, 0, none⟩) n cb) S L y) (hn : n = L.length) (h0 : 0 < n) (j : Nat) : y.frozen? ⟨g, j, none⟩ = false := by
  subst hn
  exact (h.po.o1.own h0).frozenAt j
end
/-- A pool that was made and a word. -/
def PoolR2 (v : Bool) (B : Nat) (w : World) (e : Ending) (w' : World) : Prop :=
  ∃ (S : List (Nat × Nat)) (L : List Ls) (a : Option Addr) (ca : Nat) (b : Option Addr) (cb : Nat), e = .returned (.tuple #[.agg #[.slice a S.length ca, .slice b L.length cb], .bool v]) ∧ PoO B w' (.slice a S.length ca) (.slice b L.length cb) S L ∧ Below B w w'
def PoolR3 (B : Nat) (w : World) (e : Ending) (w' : World) : Prop :=
  ∃ (S : List (Nat × Nat)) (L : List Ls) (a : Option Addr) (ca : Nat) (b : Option Addr) (cb : Nat) (i : Int) (v : Bool), e = .returned (.tuple #[.agg #[.slice a S.length ca, .slice b L.length cb], .int .i64 i, .bool v]) ∧ PoO B w' (.slice a S.length ca) (.slice b L.length cb) S L ∧ Below B w w'
theorem PV.out {w y : World} {v0 v1 u0 u1 : Value} {D B : Nat} {S : List (Nat × Nat)} {L : List Ls} (h : PV w v0 v1 D B u0 u1 S L y) (x0 x1 : Value) :
    PoO w.heap.size ((y.setCell ⟨w.heap.size + 1, 0, none⟩ x0).setCell ⟨w.heap.size + 1, 1, none⟩ x1) u0 u1 S L := by
  have := h.hB
  exact ((h.po.setLow (by omega)).setLow (by omega)).base (by omega)
theorem lentP_at {n : Nat} {L : List Ls} {id : Int} (h : lentP n L id = true) : ∃ (k : Nat) (hk : k < L.length), id = k ∧ isPoolP n L = true ∧ okL n L[k] ∧ lsF L[k] = false := by
  unfold lentP at h
  simp only [Bool.and_eq_true, decide_eq_true_eq, Bool.not_eq_true'] at h
  obtain ⟨h0, h1, h2, h3⟩ := h
  have hk : id.toNat < L.length := by omega
  refine ⟨id.toNat, hk, by omega, h2, ?_, ?_⟩
  · unfold isPoolP at h2
    simp only [Bool.and_eq_true, decide_eq_true_eq, oks] at h2
    exact h2.2.2.1 _ (List.getElem_mem hk)
  · rwa [List.getD_eq_getElem?_getD, List.getElem?_eq_getElem hk] at h3
set_option maxHeartbeats 4000000 in
theorem give_s (B : Nat) (v0 v1 : Value) (S : List (Nat × Nat)) (L : List Ls) (id : Int) (w : World) (hp : PoO B w v0 v1 S L) :
    Calls Try.prog 41 #[.agg #[v0, v1], .int .i64 id] w (PoolR2 (lentP S.length L id) w.heap.size w) := by
  obtain ⟨a, ca, rfl⟩ := hp.o0.open
  obtain ⟨b, cb, rfl⟩ := hp.o1.open
  have HT := Lib.hid hp
  clear hp
  go_enter Try.func41, Try.ntmps41
  go_wp2_with fail
  have hX := PX.start w (.slice a S.length ca) (.slice b L.length cb)
  generalize (w.alloc (Obj.cells #[Value.slice a S.length ca, Value.slice b L.length cb] 25)).alloc (Obj.cells #[Value.slice none 0 0, Value.slice none 0 0] 25) = x at *
  have HX := Lib.hid hX
  clear hX
  refine (lent_s B _ _ S L id _ (HT.out.below HX.out.bel)).mono ?_
  rintro e y ⟨rfl, hby⟩
  have HY := Lib.hid (HX.out.keep hby)
  clear hby HX
  cases hok : lentP S.length L id with
  | false =>
    have HO := Lib.hid hok
    clear hok
    obtain ⟨k0, k1, k2, k3, k4, k5⟩ := HY.out.cells
    obtain ⟨e0, e1, hbF⟩ := HY.out.stored (.slice none 0 0) (.slice none 0 0)
    have HB := Lib.hid hbF
    clear hbF
    go_wp2_with fail
    refine bodyPost_ret (by simp [results, Try.results41, go_sem, e0, e1]; try rfl) rfl ?_
    exact ⟨[], [], none, 0, none, 0, by rw [HO.out]; rfl, PoO.nil _ _, HB.out⟩
  | true =>
    obtain ⟨k0, k1, k2, k3, k4, k5⟩ := HY.out.cells
    go_wp2_with fail
    refine (copy_s B _ _ S L _ (HT.out.below HY.out.bel)).mono ?_
    rintro e z1 ⟨a1, c1, b1, c2, rfl, o, hbz⟩
    have HV := Lib.hid (PV.start HY.out hbz o)
    clear o hbz k0 k1 k2 k3 k4 k5 HY
    obtain ⟨k, hk, rfl, -⟩ := lentP_at hok
    obtain ⟨g, rfl, -, c0, c1', c2', c3⟩ := lease_cells HV.out.po.o1 hk
    obtain ⟨k0, k1, -, -⟩ := HV.out.cells
    have HO := Lib.hid hok
    clear hok
    go_upto_region 4 with fail
    generalize z1.alloc (.cells #[.slice a1 S.length c1, .slice (some ⟨g, 0, none⟩) L.length c2] 25) = y2 at *
    have hfz := fun j => HV.out.frozen rfl (by omega) j
    have HV2 := Lib.hid (HV.out.lease hk 0 0 0 true)
    obtain ⟨m0, m1, -, -⟩ := HV2.out.cells
    obtain ⟨-, -, p0, p1, p2, p3⟩ := HV2.out.arg.cells
    obtain ⟨e0, e1, hbF⟩ := HV2.out.arg.stored (.slice a1 S.length c1) (.slice (some ⟨g, 0, none⟩) L.length c2)
    have HF := Lib.hid hbF
    clear hbF
    go_wp2_with fail
    refine bodyPost_ret (by simp [results, Try.results41, go_sem, e0, e1]; try rfl) rfl ?_
    have ho := HV2.out.out (.slice a1 S.length c1) (.slice (some ⟨g, 0, none⟩) L.length c2)
    exact ⟨S, L.set k (0, 0, 0, true), _, _, _, _, by rw [HO.out, List.length_set], by rw [List.length_set]; exact ho, HF.out⟩
end Go.Proofs.Ytmfgffgfggkgcaa
