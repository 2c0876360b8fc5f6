/-
  MergeTables of the program.
-/
import Derived.Test.YtolflcjaglgphaaPutI
import Derived.Test.YtolflcjaglgphaaMergeP
import Derived.Test.YtolflcjaglgphaaFind
namespace Go.Proofs.Ytolflcjaglgphaa
open Go.RowKit
theorem putP_len {ps : List (Nat × Nat)} {ls : List Int} {z : Nat × Nat} {l : Int} {t : Tab} (h : putP ps ls z l = some t) : t.1.length = t.2.length ∧ t.1.length ≤ 64 := by
  unfold putP at h
  split at h
  · rename_i h1
    have g1 := of_decide_eq_true h1
    split at h
    · cases h; exact ⟨by rw [List.length_set]; exact g1.1, g1.2.1⟩
    · split at h
      · rename_i h2
        have g2 := of_decide_eq_true h2
        cases h
        exact ⟨g2.1, g2.2.1⟩
      · cases h
  · cases h
/-- The boxes of the arguments, the cell of the result, the table in its variable. -/
structure MS (w : World) (b0 b1 : Value) (D : Nat) (u0 u1 : Value) (cur : Tab) (y : World) : Prop where
  bel : Below w.heap.size w y
  box : y.heap[w.heap.size + 1]? = some (.cells #[b0, b1] 25 (0, 0))
  res : y.heap[w.heap.size + 2]? = some (.cells #[.slice none 0 0, .slice none 0 0] 25 (0, 0))
  row : y.heap[D]? = some (.cells #[u0, u1] 25 (0, 0))
  tab : TabO (w.heap.size + 3) y u0 u1 cur.1 cur.2
  hD : w.heap.size + 2 < D
section
variable {w : World} {b0 b1 : Value} {D : Nat} {u0 u1 : Value} {cur : Tab} {y y' : World}
theorem MS.keep (h : MS w b0 b1 D u0 u1 cur y) (hb : Below y.heap.size y y') : MS w b0 b1 D u0 u1 cur y' :=
  ⟨bel_go h.bel hb, (hb.block _ (Array.getElem?_eq_some_iff.1 h.box).1).trans h.box, (hb.block _ (Array.getElem?_eq_some_iff.1 h.res).1).trans h.res, (hb.block _ (Array.getElem?_eq_some_iff.1 h.row).1).trans h.row, h.tab.below hb, h.hD⟩
theorem MS.cells (h : MS w b0 b1 D u0 u1 cur y) : y.cell? ⟨w.heap.size + 1, 0, none⟩ = some b0 ∧ y.cell? ⟨w.heap.size + 1, 1, none⟩ = some b1 ∧ y.cell? ⟨D, 0, none⟩ = some u0 ∧ y.cell? ⟨D, 1, none⟩ = some u1 ∧ y.frozen? ⟨D, 0, none⟩ = false ∧ y.frozen? ⟨D, 1, none⟩ = false ∧
    y.cell? ⟨w.heap.size + 2, 0, none⟩ = some (.slice none 0 0) ∧ y.cell? ⟨w.heap.size + 2, 1, none⟩ = some (.slice none 0 0) ∧ y.frozen? ⟨w.heap.size + 2, 0, none⟩ = false ∧ y.frozen? ⟨w.heap.size + 2, 1, none⟩ = false :=
  ⟨cell_of_row _ _ 0 _ _ _ h.box, cell_of_row _ _ 1 _ _ _ h.box, cell_of_row _ _ 0 _ _ _ h.row, cell_of_row _ _ 1 _ _ _ h.row, frozen_of_row _ _ 0 _ _ h.row, frozen_of_row _ _ 1 _ _ h.row,
    cell_of_row _ _ 0 _ _ _ h.res, cell_of_row _ _ 1 _ _ _ h.res, frozen_of_row _ _ 0 _ _ h.res, frozen_of_row _ _ 1 _ _ h.res⟩
/-- Another table stored into the variable. -/
theorem MS.store {B : Nat} {u0' u1' : Value} {cur' : Tab} (h : MS w b0 b1 D u0 u1 cur y) (ht : TabO B y u0' u1' cur'.1 cur'.2) (hB : w.heap.size + 3 ≤ B) : MS w b0 b1 D u0' u1' cur' ((y.setCell ⟨D, 0, none⟩ u0').setCell ⟨D, 1, none⟩ u1') := by
  have hD := h.hD
  have q0 := heap_setCell_same _ _ 0 _ _ u0' h.row
  have q1 := heap_setCell_same _ _ 1 _ _ u1' q0
  have hne : ∀ k, k ≠ D → ((y.setCell ⟨D, 0, none⟩ u0').setCell ⟨D, 1, none⟩ u1').heap[k]? = y.heap[k]? := fun k hk => (heap_setCell_other _ _ _ _ hk).trans (heap_setCell_other _ _ _ _ hk)
  exact ⟨(h.bel.setCell (by show w.heap.size ≤ D; omega) _).setCell (by show w.heap.size ≤ D; omega) _, (hne _ (by omega)).trans h.box, (hne _ (by omega)).trans h.res, q1,
    ⟨own_base (own_set (own_set ht.o0 h.row (by decide)) q0 (by decide)) hB, own_base (own_set (own_set ht.o1 h.row (by decide)) q0 (by decide)) hB, ht.wf, ht.le⟩, h.hD⟩
/-- The result's cell written. -/
theorem MS.stored (h : MS w b0 b1 D u0 u1 cur y) (t0 t1 : Value) :
    (((y.setCell ⟨w.heap.size + 2, 0, none⟩ t0).setCell ⟨w.heap.size + 2, 1, none⟩ t1).cell? ⟨w.heap.size + 2, 0, none⟩ = some t0) ∧ (((y.setCell ⟨w.heap.size + 2, 0, none⟩ t0).setCell ⟨w.heap.size + 2, 1, none⟩ t1).cell? ⟨w.heap.size + 2, 1, none⟩ = some t1) ∧
    Below w.heap.size w ((y.setCell ⟨w.heap.size + 2, 0, none⟩ t0).setCell ⟨w.heap.size + 2, 1, none⟩ t1) := by
  have r0 := heap_setCell_same _ _ 0 _ _ t0 h.res
  have r1 := heap_setCell_same _ _ 1 _ _ t1 r0
  exact ⟨cell_of_row _ _ 0 _ _ _ r1, cell_of_row _ _ 1 _ _ _ r1, (h.bel.setCell (Nat.le_add_right _ _) _).setCell (Nat.le_add_right _ _) _⟩
theorem MS.done {a b : Option Addr} {ca cb : Nat} (h : MS w b0 b1 D (.slice a cur.1.length ca) (.slice b cur.1.length cb) cur y) :
    TabRet (some cur) w (.returned (.tuple #[.agg #[.slice a cur.1.length ca, .slice b cur.1.length cb], .bool true])) ((y.setCell ⟨w.heap.size + 2, 0, none⟩ (.slice a cur.1.length ca)).setCell ⟨w.heap.size + 2, 1, none⟩ (.slice b cur.1.length cb)) :=
  ⟨a, ca, b, cb, rfl, ((h.tab.setCell (Nat.lt_succ_self _)).setCell (Nat.lt_succ_self _)).base (by omega), (h.stored _ _).2.2⟩
end
/-- The start: two boxes and the cell. -/
structure M0 (w : World) (a0 a1 b0 b1 : Value) (y : World) : Prop where
  bel : Below w.heap.size w y
  boxa : y.heap[w.heap.size]? = some (.cells #[a0, a1] 25 (0, 0))
  box : y.heap[w.heap.size + 1]? = some (.cells #[b0, b1] 25 (0, 0))
  res : y.heap[w.heap.size + 2]? = some (.cells #[.slice none 0 0, .slice none 0 0] 25 (0, 0))
section
variable {w : World} {a0 a1 b0 b1 : Value} {y y' : World}
theorem M0.keep (h : M0 w a0 a1 b0 b1 y) (hb : Below y.heap.size y y') : M0 w a0 a1 b0 b1 y' :=
  ⟨bel_go h.bel hb, (hb.block _ (Array.getElem?_eq_some_iff.1 h.boxa).1).trans h.boxa, (hb.block _ (Array.getElem?_eq_some_iff.1 h.box).1).trans h.box, (hb.block _ (Array.getElem?_eq_some_iff.1 h.res).1).trans h.res⟩
theorem M0.start (w : World) (a0 a1 b0 b1 : Value) : M0 w a0 a1 b0 b1 (((w.alloc (.cells #[a0, a1] 25)).alloc (.cells #[b0, b1] 25)).alloc (.cells #[.slice none 0 0, .slice none 0 0] 25)) := by
  refine ⟨bel_al (bel_al (bel_one _ _) _) _, ?_, ?_, ?_⟩
  · show (((w.heap.push _).push _).push _)[w.heap.size]? = _
    rw [Array.getElem?_push, if_neg (by simp; omega), Array.getElem?_push, if_neg (by simp), Array.getElem?_push, if_pos rfl]
  · show (((w.heap.push _).push _).push _)[w.heap.size + 1]? = _
    rw [Array.getElem?_push, if_neg (by simp), Array.getElem?_push, if_pos (by simp)]
  · show (((w.heap.push _).push _).push _)[w.heap.size + 2]? = _
    rw [Array.getElem?_push, if_pos (by simp)]
theorem M0.cells (h : M0 w a0 a1 b0 b1 y) : y.cell? ⟨w.heap.size, 0, none⟩ = some a0 ∧ y.cell? ⟨w.heap.size, 1, none⟩ = some a1 ∧ y.cell? ⟨w.heap.size + 1, 0, none⟩ = some b0 ∧ y.cell? ⟨w.heap.size + 1, 1, none⟩ = some b1 ∧
    y.cell? ⟨w.heap.size + 2, 0, none⟩ = some (.slice none 0 0) ∧ y.cell? ⟨w.heap.size + 2, 1, none⟩ = some (.slice none 0 0) ∧ y.frozen? ⟨w.heap.size + 2, 0, none⟩ = false ∧ y.frozen? ⟨w.heap.size + 2, 1, none⟩ = false :=
  ⟨cell_of_row _ _ 0 _ _ _ h.boxa, cell_of_row _ _ 1 _ _ _ h.boxa, cell_of_row _ _ 0 _ _ _ h.box, cell_of_row _ _ 1 _ _ _ h.box, cell_of_row _ _ 0 _ _ _ h.res, cell_of_row _ _ 1 _ _ _ h.res, frozen_of_row _ _ 0 _ _ h.res, frozen_of_row _ _ 1 _ _ h.res⟩
theorem M0.stored (h : M0 w a0 a1 b0 b1 y) (t0 t1 : Value) :
    (((y.setCell ⟨w.heap.size + 2, 0, none⟩ t0).setCell ⟨w.heap.size + 2, 1, none⟩ t1).cell? ⟨w.heap.size + 2, 0, none⟩ = some t0) ∧ (((y.setCell ⟨w.heap.size + 2, 0, none⟩ t0).setCell ⟨w.heap.size + 2, 1, none⟩ t1).cell? ⟨w.heap.size + 2, 1, none⟩ = some t1) ∧
    Below w.heap.size w ((y.setCell ⟨w.heap.size + 2, 0, none⟩ t0).setCell ⟨w.heap.size + 2, 1, none⟩ t1) := by
  have r0 := heap_setCell_same _ _ 0 _ _ t0 h.res
  have r1 := heap_setCell_same _ _ 1 _ _ t1 r0
  exact ⟨cell_of_row _ _ 0 _ _ _ r1, cell_of_row _ _ 1 _ _ _ r1, (h.bel.setCell (Nat.le_add_right _ _) _).setCell (Nat.le_add_right _ _) _⟩
theorem M0.begin {a b : Option Addr} {ca cb n : Nat} {ps : List (Nat × Nat)} {ls : List Int} (h : M0 w a0 a1 b0 b1 y) (hb : Below y.heap.size y y') (hn : ps.length = n) (o0 : y'.ownsRow y.heap.size 33 1 (.slice a n ca) n (ps.map cx)) (o1 : y'.ownsRow y.heap.size 3 1 (.slice b n cb) n (ints ls))
    (wf : ∀ p ∈ ps, p.1 < 4294967296 ∧ p.2 < 4294967296) (le : n ≤ 1000000) :
    MS w b0 b1 y'.heap.size (.slice a n ca) (.slice b n cb) (ps, ls) (y'.alloc (.cells #[.slice a n ca, .slice b n cb] 25)) := by
  subst hn
  have h2 := (Array.getElem?_eq_some_iff.1 h.res).1
  have h3 := hb.size
  have h' := (h.keep hb).keep (bel_one y' (.cells #[.slice a ps.length ca, .slice b ps.length cb] 25))
  refine ⟨h'.bel, h'.box, h'.res, ?_, ⟨own_base (own_below o0 (bel_one _ _)) (by omega), own_base (own_below o1 (bel_one _ _)) (by omega), wf, le⟩, by omega⟩
  show (y'.heap.push _)[y'.heap.size]? = _
  rw [Array.getElem?_push, if_pos rfl]
end
theorem mergeP_badA {a b : Tab} (h : isTab a.1 a.2.length = false) : mergeP a b = none := by unfold mergeP; rw [h]; rfl
theorem mergeP_badB {a b : Tab} (h : isTab b.1 b.2.length = false) : mergeP a b = none := by unfold mergeP; rw [h, Bool.and_false]; rfl
theorem mergeP_good {a b : Tab} (h : isTab a.1 a.2.length = true) (h2 : isTab b.1 b.2.length = true) : mergeP a b = mergeF (b.1.zip b.2) a := by unfold mergeP; rw [h, h2]; rfl
set_option maxHeartbeats 4000000 in
theorem merge_i (A B : Nat) (v0 v1 u0 u1 : Value) (ps qs : List (Nat × Nat)) (ls ms : List Int) (w : World) (ht : TabO A w v0 v1 ps ls) (hu : TabO B w u0 u1 qs ms) :
    Calls Try.prog 29 #[.agg #[v0, v1], .agg #[u0, u1]] w (TabRet (mergeP (ps, ls) (qs, ms)) w) := by
  obtain ⟨a, ca, rfl⟩ := owns_form ht.o0
  obtain ⟨b, cb, rfl⟩ := owns_form ht.o1
  obtain ⟨c, cc, rfl⟩ := owns_form hu.o0
  obtain ⟨d, cd, rfl⟩ := owns_form hu.o1
  have HT := Lib.hid (show _ ∧ _ from ⟨ht, hu⟩)
  clear ht hu
  go_enter Try.func29, Try.ntmps29
  go_wp2_with fail
  have hS := M0.start w (Value.slice a ps.length ca) (Value.slice b ps.length cb) (Value.slice c qs.length cc) (Value.slice d qs.length cd)
  generalize ((w.alloc (Obj.cells #[Value.slice a ps.length ca, Value.slice b ps.length cb] 25)).alloc (Obj.cells #[Value.slice c qs.length cc, Value.slice d qs.length cd] 25)).alloc (Obj.cells #[Value.slice none 0 0, Value.slice none 0 0] 25) = x at *
  have HX := Lib.hid hS
  clear hS
  refine (isTable_i _ _ ps ls _ (HT.out.1.below HX.out.bel).tabIn).mono ?_
  rintro e y ⟨rfl, hby⟩
  have HY := Lib.hid (HX.out.keep hby)
  clear hby HX
  cases hok : isTab ps ls.length with
  | false =>
    obtain ⟨k0, k1, k2, k3, k4, k5, k6, k7⟩ := HY.out.cells
    obtain ⟨e0, e1, hbF⟩ := HY.out.stored (.slice none 0 0) (.slice none 0 0)
    have HB := Lib.hid hbF
    clear hbF
    go_wp2_with fail
    refine bodyPost_ret (by simp [results, Try.results29, go_sem, e0, e1]; try rfl) rfl ?_
    rw [mergeP_badA hok]
    exact ⟨none, 0, none, 0, rfl, TabO.nil _ _, HB.out⟩
  | true =>
    obtain ⟨k0, k1, k2, k3, k4, k5, k6, k7⟩ := HY.out.cells
    go_wp2_with fail
    clear k0 k1 k2 k3 k4 k5 k6 k7
    refine (isTable_i _ _ qs ms _ (HT.out.2.below HY.out.bel).tabIn).mono ?_
    rintro e y2 ⟨rfl, hby⟩
    have HZ := Lib.hid (HY.out.keep hby)
    clear hby HY
    obtain ⟨k0, k1, k2, k3, k4, k5, k6, k7⟩ := HZ.out.cells
    cases hok2 : isTab qs ms.length with
    | false =>
      obtain ⟨e0, e1, hbF⟩ := HZ.out.stored (.slice none 0 0) (.slice none 0 0)
      have HB := Lib.hid hbF
      clear hbF
      go_wp2_with fail
      refine bodyPost_ret (by simp [results, Try.results29, go_sem, e0, e1]; try rfl) rfl ?_
      rw [mergeP_badB hok2]
      exact ⟨none, 0, none, 0, rfl, TabO.nil _ _, HB.out⟩
    | true =>
      have h64 : ps.length ≤ 64 := (of_decide_eq_true hok).2.1
      have h65 : qs.length ≤ 64 := (of_decide_eq_true hok2).2.1
      go_wp2_with fail
      refine (copyTable_i A A _ _ ps.length ps.length ps ls _ (by omega) (by omega) (HT.out.1.below HZ.out.bel).o0 (HT.out.1.below HZ.out.bel).o1).mono ?_
      rintro e z1 ⟨a1, c1, b1, c2, rfl, o0, o1, hbz⟩
      have HM := Lib.hid (HZ.out.begin hbz rfl o0 o1 HT.out.1.wf (by omega))
      clear o0 o1 hbz k0 k1 k2 k3 k4 k5 k6 k7 HZ
      obtain ⟨m0, m1, -⟩ := HM.out.cells
      go_wp2_with fail
      clear m0 m1
      generalize z1.alloc (.cells #[.slice a1 ps.length c1, .slice b1 ps.length c2] 25) = y3 at *
      generalize z1.heap.size = D at *
      have HQ := Lib.hid (mergeP_good (a := (ps, ls)) (b := (qs, ms)) hok hok2)
      go_loopw [24] (fun kv wr => ∃ (k : Nat) (cur : Tab) (g0 : Option Addr) (q0 : Nat) (g1 : Option Addr) (q1 : Nat), k ≤ qs.length ∧ kv = .int .i64 k ∧ mergeF ((qs.zip ms).take k) (ps, ls) = some cur ∧
        MS w (.slice c qs.length cc) (.slice d qs.length cd) D (.slice g0 cur.1.length q0) (.slice g1 cur.1.length q1) cur wr) (fun kv _ => qs.length - (intOf kv).toNat)
      case atStart => exact ⟨0, (ps, ls), a1, c1, b1, c2, by omega, rfl, rfl, HM.out⟩
      case round =>
        obtain ⟨k, cur, g0, q0, g1, q1, hk, rfl, hcur, hms⟩ := hrel
        have HR := Lib.hid (show _ ∧ _ from ⟨hcur, hms⟩)
        obtain ⟨m0, m1, m2, m3, m4, m5, m6, m7, m8, m9⟩ := hms.cells
        clear hcur hms
        by_cases hlt : (k : Int) < (qs.length : Int)
        · have hk' : k < qs.length := by omega
          have hkm : k < ms.length := by have := HT.out.2.len; omega
          obtain ⟨ga, oa, rfl, hca⟩ : ∃ g off, c = some ⟨g, off, none⟩ ∧ wr.cell? ⟨g, off + k, none⟩ = some (.complex .f32 qs[k].1 qs[k].2) := by
            rcases (slat_own' (HT.out.2.below HR.out.2.bel).o0).2 with h0 | ⟨g, off, rfl, hh⟩
            · omega
            · exact ⟨g, off, rfl, by rw [hh.at (by simpa using hk'), List.getElem_map]; rfl⟩
          obtain ⟨gb, ob, rfl, hcb⟩ : ∃ g off, d = some ⟨g, off, none⟩ ∧ wr.cell? ⟨g, off + k, none⟩ = some (.int .i64 ms[k]) := by
            rcases (slat_own' (HT.out.2.below HR.out.2.bel).o1).2 with h0 | ⟨g, off, rfl, hh⟩
            · omega
            · exact ⟨g, off, rfl, by rw [hh.at (by simpa [ints] using hkm)]; simp [ints]⟩
          have hwz := HT.out.2.wf qs[k] (List.getElem_mem hk')
          have HN := Lib.hid (merge_at hk' hkm HR.out.1)
          have HZ := Lib.hid hwz
          clear hwz
          generalize hzq : qs[k] = zq at *
          generalize ms[k] = lq at *
          clear hzq
          have HS := Lib.hid (HR.out.2.keep ((Below.refl _ _).drew))
          obtain ⟨r, hr⟩ : ∃ r, putP cur.1 cur.2 zq lq = r := ⟨_, rfl⟩
          have HPUT := Lib.hid (fun (w' : World) (h : TabO (w.heap.size + 3) w' (.slice g0 cur.1.length q0) (.slice g1 cur.1.length q1) cur.1 cur.2) => put_i (w.heap.size + 3) (.slice g0 cur.1.length q0) (.slice g1 cur.1.length q1) cur.1 cur.2 zq lq w' h HZ.out)
          rw [hr] at HPUT HN
          clear hr
          go_wp2_with fail
          go_region_with ((go_at_call 16; refine (HPUT.out _ ?_).mono ?_; (exact HS.out.tab); rintro e w1 ⟨pa, pca, pb, pcb, rfl, htab, hb1⟩; have H1 := Lib.hid (show _ ∧ _ ∧ _ from ⟨HS.out.keep hb1, htab, hb1.size⟩); clear htab hb1; obtain ⟨-, -, n2, n3, n4, n5, -⟩ := H1.out.1.cells))
          all_goals
            have H2 := Lib.hid (H1.out.1.store H1.out.2.1 (by have h1 := HS.out.hD; have h2 := (Array.getElem?_eq_some_iff.1 HS.out.row).1; omega))
            clear n2 n3 n4 n5 m0 m1 m2 m3 m4 m5 m6 m7 m8 m9 hca hcb
            cases r with
            | none =>
              have H3 := Lib.hid (show MS w (.slice (some ⟨ga, oa, none⟩) qs.length cc) (.slice (some ⟨gb, ob, none⟩) qs.length cd) D (.slice pa 0 pca) (.slice pb 0 pcb) ([], []) ((w1.setCell ⟨D, 0, none⟩ (.slice pa 0 pca)).setCell ⟨D, 1, none⟩ (.slice pb 0 pcb)) from H2.out)
              clear H2
              obtain ⟨-, -, -, -, -, -, p0, p1, p2, p3⟩ := H3.out.cells
              obtain ⟨e0, e1, hbF⟩ := H3.out.stored (.slice none 0 0) (.slice none 0 0)
              have HB := Lib.hid hbF
              clear hbF
              go_wp2_with fail
              refine bodyPost_ret (by simp [results, Try.results29, go_sem, e0, e1]; try rfl) rfl ?_
              rw [HQ.out, merge_fail HN.out]
              exact ⟨none, 0, none, 0, rfl, TabO.nil _ _, HB.out⟩
            | some c' =>
              have H3 := Lib.hid (show MS w (.slice (some ⟨ga, oa, none⟩) qs.length cc) (.slice (some ⟨gb, ob, none⟩) qs.length cd) D (.slice pa c'.1.length pca) (.slice pb c'.1.length pcb) c' ((w1.setCell ⟨D, 0, none⟩ (.slice pa c'.1.length pca)).setCell ⟨D, 1, none⟩ (.slice pb c'.1.length pcb)) from H2.out)
              clear H2
              go_wp2_with fail
              go_roundw
              case rel => exact ⟨k + 1, c', pa, pca, pb, pcb, by omega, by go_num, HN.out, H3.out⟩
              case measure => simp [intOf]; omega
        · obtain rfl : k = qs.length := by omega
          obtain ⟨e0, e1, hbF⟩ := HR.out.2.stored (.slice g0 cur.1.length q0) (.slice g1 cur.1.length q1)
          clear hbF
          go_wp2_with fail
          refine bodyPost_ret (by simp [results, Try.results29, go_sem, e0, e1]; try rfl) rfl ?_
          have hz : (qs.zip ms).take qs.length = qs.zip ms := List.take_of_length_le (by simp; omega)
          have hf := HR.out.1
          rw [hz] at hf
          rw [HQ.out, hf]
          exact HR.out.2.done
end Go.Proofs.Ytolflcjaglgphaa
