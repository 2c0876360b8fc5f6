/-
  PutPoint of the reference.
-/
import Derived.Test.YtolflcjaglgphaaCopyS
import Derived.Test.YtolflcjaglgphaaTurn
import Derived.Test.YtolflcjaglgphaaPutP
namespace Go.Proofs.Ytolflcjaglgphaa
open Go.RowKit
/-- A table of the call's own. -/
structure TabO (B : Nat) (w : World) (v0 v1 : Value) (ps : List (Nat × Nat)) (ls : List Int) : Prop where
  o0 : w.ownsRow B 33 1 v0 ps.length (ps.map cx)
  o1 : w.ownsRow B 3 1 v1 ps.length (ints ls)
  wf : ∀ p ∈ ps, p.1 < 4294967296 ∧ p.2 < 4294967296
  le : ps.length ≤ 1000000
theorem TabO.len {B : Nat} {w : World} {v0 v1 : Value} {ps : List (Nat × Nat)} {ls : List Int} (h : TabO B w v0 v1 ps ls) : ls.length = ps.length := by simpa [ints] using h.o1.1
theorem TabO.below {B : Nat} {w w' : World} {v0 v1 : Value} {ps : List (Nat × Nat)} {ls : List Int} (h : TabO B w v0 v1 ps ls) (hb : Below w.heap.size w w') : TabO B w' v0 v1 ps ls :=
  ⟨own_below h.o0 hb, own_below h.o1 hb, h.wf, h.le⟩
theorem TabO.tabIn {B : Nat} {w : World} {v0 v1 : Value} {ps : List (Nat × Nat)} {ls : List Int} (h : TabO B w v0 v1 ps ls) : TabIn w v0 v1 ps ls :=
  tabIn_own h.o0 h.o1 (by have := h.le; omega) (by have := h.le; omega) h.wf
theorem TabO.nil (B : Nat) (w : World) : TabO B w (.slice none 0 0) (.slice none 0 0) [] [] :=
  ⟨⟨rfl, .inl ⟨rfl, rfl⟩⟩, ⟨rfl, .inl ⟨rfl, rfl⟩⟩, (fun _ h => by cases h), by simp⟩
theorem TabO.base {B B' : Nat} {w : World} {v0 v1 : Value} {ps : List (Nat × Nat)} {ls : List Int} (h : TabO B w v0 v1 ps ls) (hb : B' ≤ B) : TabO B' w v0 v1 ps ls := ⟨own_base h.o0 hb, own_base h.o1 hb, h.wf, h.le⟩
theorem TabO.setCell {B c j : Nat} {w : World} {v0 v1 u : Value} {ps : List (Nat × Nat)} {ls : List Int} (h : TabO B w v0 v1 ps ls) (hc : c < B) : TabO B (w.setCell ⟨c, j, none⟩ u) v0 v1 ps ls := ⟨own_setCell h.o0 hc, own_setCell h.o1 hc, h.wf, h.le⟩
/-- A table and whether it was made. -/
def TabRet (r : Option (List (Nat × Nat) × List Int)) (w : World) (e : Ending) (w' : World) : Prop :=
  ∃ a ca b cb, e = .returned (.tuple #[.agg #[.slice a (r.getD ([], [])).1.length ca, .slice b (r.getD ([], [])).1.length cb], .bool r.isSome]) ∧
    TabO w.heap.size w' (.slice a (r.getD ([], [])).1.length ca) (.slice b (r.getD ([], [])).1.length cb) (r.getD ([], [])).1 (r.getD ([], [])).2 ∧ Below w.heap.size w w'
/-- The box of the argument and the cell of the result. -/
structure PS (w : World) (v0 v1 : Value) (y : World) : Prop where
  bel : Below w.heap.size w y
  box : y.heap[w.heap.size]? = some (.cells #[v0, v1] 25 (0, 0))
  res : y.heap[w.heap.size + 1]? = some (.cells #[.slice none 0 0, .slice none 0 0] 25 (0, 0))
theorem PS.lt {w y : World} {v0 v1 : Value} (h : PS w v0 v1 y) : w.heap.size + 1 < y.heap.size := (Array.getElem?_eq_some_iff.1 h.res).1
theorem PS.keep {w y y' : World} {v0 v1 : Value} (h : PS w v0 v1 y) (hb : Below y.heap.size y y') : PS w v0 v1 y' := by
  have := h.lt
  exact ⟨bel_go h.bel hb, (hb.block _ (by omega)).trans h.box, (hb.block _ (by omega)).trans h.res⟩
theorem PS.kp {c : Nat} {w y y' : World} {v0 v1 : Value} (h : PS w v0 v1 y) (hk : Kp c y y') (hc : w.heap.size + 1 < c) : PS w v0 v1 y' := by
  have := h.lt
  exact ⟨h.bel.trans (hk.below (by omega) (by omega)), (hk.block _ (by omega) (by omega)).trans h.box, (hk.block _ (by omega) (by omega)).trans h.res⟩
theorem PS.start (w : World) (v0 v1 : Value) : PS w v0 v1 ((w.alloc (.cells #[v0, v1] 25)).alloc (.cells #[.slice none 0 0, .slice none 0 0] 25)) := by
  refine ⟨bel_al (bel_one _ _) _, ?_, ?_⟩
  · show ((w.heap.push _).push _)[w.heap.size]? = _
    rw [Array.getElem?_push, if_neg (by simp), Array.getElem?_push, if_pos rfl]
  · show ((w.heap.push _).push _)[w.heap.size + 1]? = _
    rw [Array.getElem?_push, if_pos (by simp)]
theorem PS.cells {w y : World} {v0 v1 : Value} (h : PS w v0 v1 y) : y.cell? ⟨w.heap.size, 0, none⟩ = some v0 ∧ y.cell? ⟨w.heap.size, 1, none⟩ = some v1 ∧ y.cell? ⟨w.heap.size + 1, 0, none⟩ = some (.slice none 0 0) ∧ y.cell? ⟨w.heap.size + 1, 1, none⟩ = some (.slice none 0 0) ∧
    y.frozen? ⟨w.heap.size + 1, 0, none⟩ = false ∧ y.frozen? ⟨w.heap.size + 1, 1, none⟩ = false :=
  ⟨cell_of_row _ _ 0 _ _ _ h.box, cell_of_row _ _ 1 _ _ _ h.box, cell_of_row _ _ 0 _ _ _ h.res, cell_of_row _ _ 1 _ _ _ h.res, frozen_of_row _ _ 0 _ _ h.res, frozen_of_row _ _ 1 _ _ h.res⟩
/-- The result's cell written. -/
theorem PS.stored {w y : World} {v0 v1 : Value} (h : PS w v0 v1 y) (u0 u1 : Value) :
    (((y.setCell ⟨w.heap.size + 1, 0, none⟩ u0).setCell ⟨w.heap.size + 1, 1, none⟩ u1).cell? ⟨w.heap.size + 1, 0, none⟩ = some u0) ∧ (((y.setCell ⟨w.heap.size + 1, 0, none⟩ u0).setCell ⟨w.heap.size + 1, 1, none⟩ u1).cell? ⟨w.heap.size + 1, 1, none⟩ = some u1) ∧
    Below w.heap.size w ((y.setCell ⟨w.heap.size + 1, 0, none⟩ u0).setCell ⟨w.heap.size + 1, 1, none⟩ u1) := by
  have r0 := heap_setCell_same _ _ 0 _ _ u0 h.res
  have r1 := heap_setCell_same _ _ 1 _ _ u1 r0
  exact ⟨cell_of_row _ _ 0 _ _ _ r1, cell_of_row _ _ 1 _ _ _ r1, (h.bel.setCell (Nat.le_succ _) _).setCell (Nat.le_succ _) _⟩


theorem own_ne {w : World} {base e n D T : Nat} {v : Value} {xs : List Value} {c : Array Value} {fr : Nat × Nat} (h : w.ownsRow base e 1 v n xs) (hr : w.heap[D]? = some (.cells c T fr)) (hne : e ≠ T) : some D ≠ v.ownBlock := by
  rcases h.2 with ⟨rfl, _⟩ | ⟨g, cap, cur, rfl, _, hg, _⟩
  · intro he; cases he
  · intro he
    cases he
    rw [hg] at hr
    cases hr
    exact hne rfl
theorem own_set {w : World} {base e n D T j : Nat} {v u : Value} {xs : List Value} {c : Array Value} {fr : Nat × Nat} (h : w.ownsRow base e 1 v n xs) (hr : w.heap[D]? = some (.cells c T fr)) (hne : e ≠ T) : (w.setCell ⟨D, j, none⟩ u).ownsRow base e 1 v n xs :=
  h.kept (grown_kp ((Kp.refl D w).setCell u)) (.inr fun he => own_ne h hr hne he.symm)
/-- The copy in its variable. -/
structure PV (w : World) (v0 v1 : Value) (D B : Nat) (u0 u1 : Value) (n0 n1 : Nat) (ps : List (Nat × Nat)) (ls : List Int) (y : World) : Prop where
  arg : PS w v0 v1 y
  row : y.heap[D]? = some (.cells #[u0, u1] 25 (0, 0))
  o0 : y.ownsRow B 33 1 u0 n0 (ps.map cx)
  o1 : y.ownsRow B 3 1 u1 n1 (ints ls)
  hB : w.heap.size + 1 < B
  hD : w.heap.size + 1 < D
  le : B ≤ y.heap.size
section
variable {w : World} {v0 v1 : Value} {D B : Nat} {u0 u1 : Value} {n0 n1 : Nat} {ps : List (Nat × Nat)} {ls : List Int} {y y' : World}
theorem PV.keep (h : PV w v0 v1 D B u0 u1 n0 n1 ps ls y) (hb : Below y.heap.size y y') : PV w v0 v1 D B u0 u1 n0 n1 ps ls y' :=
  ⟨h.arg.keep hb, (hb.block _ (Array.getElem?_eq_some_iff.1 h.row).1).trans h.row, own_below h.o0 hb, own_below h.o1 hb, h.hB, h.hD, Nat.le_trans h.le hb.size⟩
theorem PV.cells (h : PV w v0 v1 D B u0 u1 n0 n1 ps ls y) : y.cell? ⟨D, 0, none⟩ = some u0 ∧ y.cell? ⟨D, 1, none⟩ = some u1 ∧ y.frozen? ⟨D, 0, none⟩ = false ∧ y.frozen? ⟨D, 1, none⟩ = false :=
  ⟨cell_of_row _ _ 0 _ _ _ h.row, cell_of_row _ _ 1 _ _ _ h.row, frozen_of_row _ _ 0 _ _ h.row, frozen_of_row _ _ 1 _ _ h.row⟩
theorem PV.setLabel {g cap j : Nat} {l : Int} (h : PV w v0 v1 D B u0 (.slice (some ⟨g, 0, none⟩) n1 cap) n0 n1 ps ls y) : PV w v0 v1 D B u0 (.slice (some ⟨g, 0, none⟩) n1 cap) n0 n1 ps (ls.set j l) (y.setCell ⟨g, j, none⟩ (.int .i64 l)) := by
  have hs := h.o1.stored j (.int .i64 l)
  have hg : B ≤ g := (World.ownsRow.lt h.o1 g rfl).1
  have hB := h.hB
  refine ⟨h.arg.kp ((Kp.refl g y).setCell _) (by omega), ?_, h.o0.kept hs.2 (own_apart h.o0 h.o1 (by decide)), ?_, h.hB, h.hD, Nat.le_trans h.le hs.2.size⟩
  · exact (heap_setCell_other _ _ _ _ (fun he => own_ne h.o1 h.row (by decide) (by rw [he]; rfl))).trans h.row
  · have : ints (ls.set j l) = (ints ls).set j (.int .i64 l) := by unfold ints; rw [List.map_set]
    rw [this]; exact hs.1
theorem PS.grown {base e n : Nat} {v : Value} {xs : List Value} (h : PS w v0 v1 y) (ho : y.ownsRow base e 1 v n xs) (hB : w.heap.size + 1 < base) (hg : y.grownBy y' v.ownBlock) : PS w v0 v1 y' := by
  have hl := h.lt
  have hne : ∀ k, k ≤ w.heap.size + 1 → some k ≠ v.ownBlock := fun k hk he => by have := (ho.lt k he.symm).1; omega
  exact ⟨h.bel.grown hg (by omega) (fun j hj => by have := (ho.lt j hj).1; omega), (hg.block _ (by omega) (hne _ (by omega))).trans h.box, (hg.block _ (by omega) (hne _ (by omega))).trans h.res⟩
theorem PV.pts {u0' : Value} {n0' : Nat} {qs : List (Nat × Nat)} (h : PV w v0 v1 D B u0 u1 n0 n1 ps ls y) (ho : y'.ownsRow B 33 1 u0' n0' (qs.map cx)) (hg : y.grownBy y' u0.ownBlock) :
    y'.heap[D]? = some (.cells #[u0, u1] 25 (0, 0)) ∧ PV w v0 v1 D B u0' u1 n0' n1 qs ls (y'.setCell ⟨D, 0, none⟩ u0') := by
  have hr : y'.heap[D]? = some (.cells #[u0, u1] 25 (0, 0)) := (hg.block _ (Array.getElem?_eq_some_iff.1 h.row).1 (own_ne h.o0 h.row (by decide))).trans h.row
  have hB := h.hB
  have hD := h.hD
  refine ⟨hr, (h.arg.grown h.o0 h.hB hg).kp ((Kp.refl D y').setCell _) h.hD, heap_setCell_same _ _ _ _ _ _ hr, own_set ho hr (by decide), own_set (h.o1.kept hg (own_apart h.o1 h.o0 (by decide))) hr (by decide), h.hB, h.hD, Nat.le_trans h.le (by simpa using hg.size)⟩
theorem PV.lbs {u1' : Value} {n1' : Nat} {ms : List Int} (h : PV w v0 v1 D B u0 u1 n0 n1 ps ls y) (ho : y'.ownsRow B 3 1 u1' n1' (ints ms)) (hg : y.grownBy y' u1.ownBlock) :
    y'.heap[D]? = some (.cells #[u0, u1] 25 (0, 0)) ∧ PV w v0 v1 D B u0 u1' n0 n1' ps ms (y'.setCell ⟨D, 1, none⟩ u1') := by
  have hr : y'.heap[D]? = some (.cells #[u0, u1] 25 (0, 0)) := (hg.block _ (Array.getElem?_eq_some_iff.1 h.row).1 (own_ne h.o1 h.row (by decide))).trans h.row
  refine ⟨hr, (h.arg.grown h.o1 h.hB hg).kp ((Kp.refl D y').setCell _) h.hD, heap_setCell_same _ _ _ _ _ _ hr, own_set (h.o0.kept hg (own_apart h.o0 h.o1 (by decide))) hr (by decide), own_set ho hr (by decide), h.hB, h.hD, Nat.le_trans h.le (by simpa using hg.size)⟩
theorem PV.start {a b : Option Addr} {ca cb : Nat} (h : PS w v0 v1 y) (hb : Below y.heap.size y y') (o0 : y'.ownsRow y.heap.size 33 1 (.slice a n0 ca) n0 (ps.map cx)) (o1 : y'.ownsRow y.heap.size 3 1 (.slice b n1 cb) n1 (ints ls)) :
    PV w v0 v1 y'.heap.size y.heap.size (.slice a n0 ca) (.slice b n1 cb) n0 n1 ps ls (y'.alloc (.cells #[.slice a n0 ca, .slice b n1 cb] 25)) := by
  have := h.lt
  have := hb.size
  refine ⟨(h.keep hb).keep (bel_one _ _), ?_, own_below o0 (bel_one _ _), own_below o1 (bel_one _ _), by omega, by omega, by simp; omega⟩
  show (y'.heap.push _)[y'.heap.size]? = _
  rw [Array.getElem?_push, if_pos rfl]
theorem PV.done {a b : Option Addr} {ca cb n : Nat} (h : PV w v0 v1 D B (.slice a n ca) (.slice b n cb) n n ps ls y) (hn : ps.length = n) (wf : ∀ p ∈ ps, p.1 < 4294967296 ∧ p.2 < 4294967296) (le : n ≤ 1000000) :
    TabRet (some (ps, ls)) w (.returned (.tuple #[.agg #[.slice a n ca, .slice b n cb], .bool true])) ((y.setCell ⟨w.heap.size + 1, 0, none⟩ (.slice a n ca)).setCell ⟨w.heap.size + 1, 1, none⟩ (.slice b n cb)) := by
  subst hn
  have hB := h.hB
  exact ⟨a, ca, b, cb, rfl, ⟨own_base (own_setCell (own_setCell h.o0 hB) hB) (by omega), own_base (own_setCell (own_setCell h.o1 hB) hB) (by omega), wf, le⟩, (h.arg.stored _ _).2.2⟩
theorem ints_snoc (ls : List Int) (l : Int) : ints (ls ++ [l]) = ints ls ++ [Value.int .i64 l] := by unfold ints; simp
theorem cx_snoc (ps : List (Nat × Nat)) (z : Nat × Nat) : (ps ++ [z]).map cx = ps.map cx ++ [cx z] := by simp
end
set_option maxHeartbeats 4000000 in
theorem put_s (B : Nat) (v0 v1 : Value) (ps : List (Nat × Nat)) (ls : List Int) (z : Nat × Nat) (l : Int) (w : World) (ht : TabO B w v0 v1 ps ls) (hz : z.1 < 4294967296 ∧ z.2 < 4294967296) :
    Calls Try.prog 17 #[.agg #[v0, v1], cx z, .int .i64 l] w (TabRet (putP ps ls z l) w) := by
  obtain ⟨a, ca, rfl⟩ := owns_form ht.o0
  obtain ⟨b, cb, rfl⟩ := owns_form ht.o1
  have HT := Lib.hid ht
  clear ht
  obtain ⟨i0, hic, hz0, hz1, hz2⟩ := info_parts cxInfo
  obtain ⟨i1, hii, hy0, hy1, hy2⟩ := info_parts intInfo
  unfold cx
  go_enter Try.func17, Try.ntmps17
  go_wp2_with fail
  have hS := PS.start w (Value.slice a ps.length ca) (Value.slice b ps.length cb)
  generalize (w.alloc (Obj.cells #[Value.slice a ps.length ca, Value.slice b ps.length cb] 25)).alloc (Obj.cells #[Value.slice none 0 0, Value.slice none 0 0] 25) = x at *
  have HX := Lib.hid hS
  clear hS
  refine (isTable_s _ _ ps ls _ (HT.out.below HX.out.bel).tabIn).mono ?_
  rintro e y ⟨rfl, hby⟩
  have HY := Lib.hid (HX.out.keep hby)
  clear hby HX
  cases hok : isTab ps ls.length with
  | false =>
    obtain ⟨k0, k1, k2, k3, k4, k5⟩ := HY.out.cells
    obtain ⟨e0, e1, hbF⟩ := HY.out.stored (.slice none 0 0) (.slice none 0 0)
    have HB := Lib.hid hbF
    clear hbF
    go_wp2_with fail
    refine bodyPost_ret (by simp [results, Try.results17, go_sem, e0, e1]; try rfl) rfl ?_
    rw [putP_bad hok]
    exact ⟨none, 0, none, 0, rfl, TabO.nil _ _, HB.out⟩
  | true =>
    obtain ⟨k0, k1, k2, k3, k4, k5⟩ := HY.out.cells
    go_wp2_with fail
    have h64 : ps.length ≤ 64 := (of_decide_eq_true hok).2.1
    refine (copyTable_s B B _ _ ps.length ps ls _ (by omega) (HT.out.below HY.out.bel).o0 (HT.out.below HY.out.bel).o1).mono ?_
    rintro e z1 ⟨a1, c1, b1, c2, rfl, o0, o1, hbz⟩
    have HV := Lib.hid (PV.start HY.out hbz o0 o1)
    clear o0 o1 hbz k0 k1 k2 k3 k4 k5 HY
    obtain ⟨k0, k1, -⟩ := HV.out.arg.cells
    go_wp2_with fail
    generalize z1.alloc (.cells #[.slice a1 ps.length c1, .slice b1 ps.length c2] 25) = y2 at *
    generalize z1.heap.size = D at *
    clear k0 k1
    refine (l2At_any _ a ps.length ca ps z _ (by omega) (slat_own' (HT.out.below HV.out.arg.bel).o0) b ps.length cb rfl).mono ?_
    rintro e y3 ⟨rfl, hb3⟩
    have H3 := Lib.hid (HV.out.keep hb3)
    clear hb3 HV
    obtain ⟨m0, m1, m2, m3⟩ := H3.out.cells
    by_cases hi : 0 ≤ idxI ps z
    · have hbd := idx_bd ps z
      obtain ⟨j, hj⟩ : ∃ j : Nat, idxI ps z = j := ⟨(idxI ps z).toNat, by omega⟩
      have hP := Lib.hid (putP_set (l := l) hok hi)
      rw [hj] at hbd hi
      rw [hj]
      have hjn : (j : Int) < (ps.length : Int) := hbd.2
      obtain ⟨g, q, hs, hg⟩ := owns_some H3.out.o1 (by omega)
      obtain ⟨rfl, rfl⟩ : b1 = some ⟨g, 0, none⟩ ∧ c2 = q := by cases hs; exact ⟨rfl, rfl⟩
      clear hs
      have hcx : y3.cell? ⟨g, j, none⟩ = some (.int .i64 (ls.getD j 0)) := by
        rw [H3.out.o1.cellAt j (by omega)]
        unfold ints
        have hjl : j < ls.length := by have := HT.out.len; omega
        rw [List.getElem?_map, List.getD_eq_getElem?_getD, List.getElem?_eq_getElem hjl]; rfl
      have hf := H3.out.o1.frozenAt j
      have H4 := Lib.hid (H3.out.setLabel (j := j) (l := l))
      obtain ⟨n0, n1, -⟩ := H4.out.cells
      obtain ⟨-, -, p0, p1, p2, p3⟩ := H4.out.arg.cells
      obtain ⟨e0, e1, hbF⟩ := H4.out.arg.stored (.slice a1 ps.length c1) (.slice (some ⟨g, 0, none⟩) ps.length c2)
      clear hbF hbd
      go_wp2_with fail
      refine bodyPost_ret (by simp [results, Try.results17, go_sem, e0, e1]; try rfl) rfl ?_
      rw [hP.out, hj]
      exact H4.out.done rfl HT.out.wf (by omega)
    · have hlt : idxI ps z < 0 := by omega
      have HI := Lib.hid hi
      clear hi
      go_wp2_with (at_builtin; refine wpList_append_own _ rfl _ _ 22 rfl y.heap.size 33 i0 (.complex .f32 0 0) 1 8 Try.underlying22 hic hz0 hz1 hz2 rfl (by decide) _ _ _ rfl (H3.out.o0.alloc _) ⟨y3.heap.size, 0, none⟩ 1 1 [_] rfl rfl (cell_one_new _ _ _) ?c2 ?c3 ?c4 ?c5 ?_)
      case c2 => intro x hx; rw [List.mem_singleton] at hx; subst hx; rfl
      case c3 => unfold maxLen; omega
      case c4 => omega
      case c5 => have := H3.out.le; simp; omega
      intro v' w4 hown hgrow _
      obtain ⟨a5, c5, rfl⟩ := owns_form hown
      obtain ⟨hr4, hv4⟩ := (H3.out.keep (bel_one _ _)).pts (qs := ps ++ [z]) (by rw [cx_snoc]; exact hown) hgrow
      have H4 := Lib.hid hv4
      have f0 : w4.cell? ⟨D, 0, none⟩ = some (.slice a1 ps.length c1) := cell_of_row _ _ 0 _ _ _ hr4
      have f2 : w4.frozen? ⟨D, 0, none⟩ = false := frozen_of_row _ _ 0 _ _ hr4
      obtain ⟨n0, n1, n2, n3⟩ := hv4.cells
      clear hv4 hr4 hown hgrow m0 m1 m2 m3 H3
      go_wp2_with (at_builtin; refine wpList_append_own _ rfl _ _ 23 rfl y.heap.size 3 i1 (.int .i64 0) 1 8 Try.underlying23 hii hy0 hy1 hy2 rfl (by decide) _ _ _ rfl (H4.out.o1.alloc _) ⟨w4.heap.size, 0, none⟩ 1 1 [.int .i64 l] rfl rfl ?d1 ?d2 ?d3 ?d4 ?d5 ?_)
      case d1 =>
        have := cell_one_new (w4.setCell ⟨D, 0, none⟩ (.slice a5 (ps.length + 1) c5)) (.int .i64 l) 3
        simpa using this
      case d2 => intro x hx; rw [List.mem_singleton] at hx; subst hx; rfl
      case d3 => unfold maxLen; omega
      case d4 => omega
      case d5 => have := H4.out.le; simp at this; simp; omega
      intro v5 w5 hown5 hgrow5 _
      obtain ⟨a6, c6, rfl⟩ := owns_form hown5
      obtain ⟨hr5, hv5⟩ := (H4.out.keep (bel_one _ _)).lbs (ms := ls ++ [l]) (by rw [ints_snoc]; exact hown5) hgrow5
      have H5 := Lib.hid hv5
      have f1 : w5.cell? ⟨D, 1, none⟩ = some (.slice b1 ps.length c2) := cell_of_row _ _ 1 _ _ _ hr5
      have f3 : w5.frozen? ⟨D, 1, none⟩ = false := frozen_of_row _ _ 1 _ _ hr5
      obtain ⟨q0, q1, q2, q3⟩ := hv5.cells
      clear hv5 hr5 hown5 hgrow5 f0 f2 n0 n1 n2 n3 H4
      go_wp2_with fail
      have hwf : ∀ p ∈ ps ++ [z], p.1 < 4294967296 ∧ p.2 < 4294967296 := fun p hp => by
        rcases List.mem_append.1 hp with h | h
        · exact HT.out.wf p h
        · rw [List.mem_singleton] at h; subst h; exact hz
      have HW := Lib.hid hwf
      clear hwf f1 f3 q0 q1 q2 q3
      refine (isTable_s _ _ (ps ++ [z]) (ls ++ [l]) _ (tabIn_own H5.out.o0 H5.out.o1 (by omega) (by omega) HW.out)).mono ?_
      rintro e y6 ⟨rfl, hb6⟩
      have H6 := Lib.hid (H5.out.keep hb6)
      clear hb6 H5
      obtain ⟨n0, n1, -⟩ := H6.out.cells
      obtain ⟨-, -, p0, p1, p2, p3⟩ := H6.out.arg.cells
      cases hok2 : isTab (ps ++ [z]) (ls ++ [l]).length with
      | true =>
        obtain ⟨e0, e1, hbF⟩ := H6.out.arg.stored (.slice a5 (ps.length + 1) c5) (.slice a6 (ps.length + 1) c6)
        clear hbF
        go_wp2_with fail
        refine bodyPost_ret (by simp [results, Try.results17, go_sem, e0, e1]; try rfl) rfl ?_
        rw [putP_new hok (by have := HI.out; omega) hok2]
        exact H6.out.done (by simp) HW.out (by omega)
      | false =>
        obtain ⟨e0, e1, hbF⟩ := H6.out.arg.stored (.slice none 0 0) (.slice none 0 0)
        have HF := Lib.hid hbF
        clear hbF
        go_wp2_with fail
        refine bodyPost_ret (by simp [results, Try.results17, go_sem, e0, e1]; try rfl) rfl ?_
        rw [putP_full hok (by have := HI.out; omega) hok2]
        exact ⟨none, 0, none, 0, rfl, TabO.nil _ _, HF.out⟩
end Go.Proofs.Ytolflcjaglgphaa
