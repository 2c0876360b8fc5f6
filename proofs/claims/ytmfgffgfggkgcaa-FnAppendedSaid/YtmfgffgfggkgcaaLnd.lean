/-
  CutLease and LendRoom of the reference.
-/
import Derived.Test.YtmfgffgfggkgcaaLpt
namespace Go.Proofs.Ytmfgffgfggkgcaa
open Go.RowKit
theorem pool_oks {n : Nat} {L : List Ls} (h : isPoolP n L = true) : oks n L = true := by
  unfold isPoolP at h
  simp only [Bool.and_eq_true] at h
  exact h.2.2.1
set_option maxHeartbeats 4000000 in
theorem cut_s (B : Nat) (v0 v1 : Value) (S : List (Nat × Nat)) (L : List Ls) (id at_ : Int) (w : World) (hp : PoO B w v0 v1 S L) :
    Calls Try.prog 42 #[.agg #[v0, v1], .int .i64 id, .int .i64 at_] w (PoolR3 w.heap.size w) := by
  obtain ⟨a, ca, rfl⟩ := hp.o0.open
  obtain ⟨b, cb, rfl⟩ := hp.o1.open
  have HT := Lib.hid hp
  clear hp
  go_enter Try.func42, Try.ntmps42
  go_wp2_with fail
  have hX := PX.start w (.slice a S.length ca) (.slice b L.length cb)
  generalize (w.alloc (Obj.cells #[Value.slice a S.length ca, Value.slice b L.length cb] 25)).alloc (Obj.cells #[Value.slice none 0 0, Value.slice none 0 0] 25) = x at *
  have HX := Lib.hid hX
  clear hX
  refine (lent_s B _ _ S L id _ (HT.out.below HX.out.bel)).mono ?_
  rintro e y ⟨rfl, hby⟩
  have HY := Lib.hid (HX.out.keep hby)
  clear hby HX
  cases hok : lentP S.length L id with
  | false =>
    have HO := Lib.hid hok
    clear hok
    obtain ⟨k0, k1, k2, k3, k4, k5⟩ := HY.out.cells
    obtain ⟨e0, e1, hbF⟩ := HY.out.stored (.slice none 0 0) (.slice none 0 0)
    have HB := Lib.hid hbF
    clear hbF
    go_wp2_with fail
    refine bodyPost_ret (by simp [results, Try.results42, go_sem, e0, e1]; try rfl) rfl ?_
    exact ⟨[], [], none, 0, none, 0, 0, false, rfl, PoO.nil _ _, HB.out⟩
  | true =>
    obtain ⟨k, hk, rfl, -, -, hf⟩ := lentP_at hok
    have HO := Lib.hid hok
    clear hok
    obtain ⟨g, rfl, -, l0, l1, l2, l3⟩ := lease_cells (HT.out.below HY.out.bel).o1 hk
    rw [hf] at l3
    have HFr := Lib.hid hf
    clear hf
    obtain ⟨k0, k1, k2, k3, k4, k5⟩ := HY.out.cells
    go_upto_region 4 with fail
    have hV := HY.out.keep (bel_one y (.cells #[.int .i64 (lsS L[k]), .int .i64 (lsC L[k]), .int .i64 (lsR L[k]), .bool false] 52))
    have hE := heap_new y (.cells #[.int .i64 (lsS L[k]), .int .i64 (lsC L[k]), .int .i64 (lsR L[k]), .bool false] 52)
    clear k0 k1 k2 k3 k4 k5 l0 l1 l2 l3 HY
    generalize y.alloc (.cells #[.int .i64 (lsS L[k]), .int .i64 (lsC L[k]), .int .i64 (lsR L[k]), .bool false] 52) = y2 at *
    generalize y.heap.size = E at *
    have HY := Lib.hid (show _ ∧ _ from ⟨hV, hE⟩)
    clear hV hE
    obtain ⟨k0, k1, k2, k3, k4, k5⟩ := HY.out.1.cells
    obtain ⟨l0, l1, l2, l3⟩ : y2.cell? ⟨E, 0, none⟩ = some (.int .i64 (lsS L[k])) ∧ y2.cell? ⟨E, 1, none⟩ = some (.int .i64 (lsC L[k])) ∧ y2.cell? ⟨E, 2, none⟩ = some (.int .i64 (lsR L[k])) ∧ y2.cell? ⟨E, 3, none⟩ = some (.bool false) :=
      ⟨cell_of_row _ _ 0 _ _ _ HY.out.2, cell_of_row _ _ 1 _ _ _ HY.out.2, cell_of_row _ _ 2 _ _ _ HY.out.2, cell_of_row _ _ 3 _ _ _ HY.out.2⟩
    have hEl : E < y2.heap.size := (Array.getElem?_eq_some_iff.1 HY.out.2).1
    go_wp2_with fail
    all_goals
      refine (l1In_any _ _ _ _).mono ?_
      rintro e w' ⟨rfl, rfl⟩
      generalize inB at_ 1 _ = bq
      cases bq with
      | false =>
        obtain ⟨e0, e1, hbF⟩ := HY.out.1.stored (.slice none 0 0) (.slice none 0 0)
        have HB := Lib.hid hbF
        clear hbF
        go_wp2_with fail
        refine bodyPost_ret (by simp [results, Try.results42, go_sem, e0, e1]; try rfl) rfl ?_
        exact ⟨[], [], none, 0, none, 0, 0, false, rfl, PoO.nil _ _, HB.out⟩
      | true =>
        go_wp2_with fail
        refine (copy_s B _ _ S L _ (HT.out.below HY.out.1.bel)).mono ?_
        rintro e z1 ⟨a1, c1, b1, c2, rfl, o, hbz⟩
        have HV := Lib.hid (PV.start HY.out.1 hbz o)
        have HE := Lib.hid ((((hbz.block _ hEl).trans HY.out.2) |> fun h => (Below.heap_alloc z1 (.cells #[.slice a1 S.length c1, .slice b1 L.length c2] 25) _ (Array.getElem?_eq_some_iff.1 h).1).trans h))
        clear o hbz k0 k1 k2 k3 k4 k5 l0 l1 l2 l3
        obtain ⟨g2, rfl, hBg, c0', c1', c2', c3'⟩ := lease_cells HV.out.po.o1 hk
        obtain ⟨k0, k1, -, -⟩ := HV.out.cells
        obtain ⟨l0, l1, l2, l3⟩ := (show _ ∧ _ ∧ _ ∧ _ from ⟨cell_of_row _ _ 0 _ _ _ HE.out, cell_of_row _ _ 1 _ _ _ HE.out, cell_of_row _ _ 2 _ _ _ HE.out, cell_of_row _ _ 3 _ _ _ HE.out⟩)
        go_upto_region 7 with fail
        generalize z1.alloc (.cells #[.slice a1 S.length c1, .slice (some ⟨g2, 0, none⟩) L.length c2] 25) = y3 at *
        generalize z1.heap.size = D at *
        have hfz := (HV.out.po.o1.own (by omega)).frozenAt
        have HV2 := Lib.hid (HV.out.lease hk (lsS L[k]) at_ at_ false)
        have hgE : E ≠ g2 := by omega
        have HE2 := Lib.hid (heap_set (heap_set (heap_set (heap_set (j := k * 4) HE.out hgE (.int .i64 (lsS L[k]))) (j := k * 4 + 1) hgE (.int .i64 at_)) (j := k * 4 + 2) hgE (.int .i64 at_)) (j := k * 4 + 3) hgE (.bool false))
        obtain ⟨m0, m1, -, -⟩ := HV2.out.cells
        obtain ⟨q0, q1, q2, q3⟩ := (show _ ∧ _ ∧ _ ∧ _ from ⟨cell_of_row _ _ 0 _ _ _ HE2.out, cell_of_row _ _ 1 _ _ _ HE2.out, cell_of_row _ _ 2 _ _ _ HE2.out, cell_of_row _ _ 3 _ _ _ HE2.out⟩)
        go_wp2_with fail
        have hg2 := OR.lt HV.out.po.o1 (by omega)
        have hBy := HV2.out.hB
        refine (lput_s y2.heap.size _ _ S _ _ _ _ _ _ HV2.out.po (by simp; omega)).mono ?_
        rintro e z2 ⟨S2, L2, a2, d1, b2, d2, i, v, rfl, ho, hb⟩
        have HZ := Lib.hid (show _ ∧ _ from ⟨HV2.out.arg.keepB hb hBy, ho⟩)
        clear hb ho k0 k1 l0 l1 l2 l3 m0 m1 q0 q1 q2 q3 c0' c1' c2' c3' hfz
        obtain ⟨k0, k1, k2, k3, k4, k5⟩ := HZ.out.1.cells
        obtain ⟨e0, e1, hbF⟩ := HZ.out.1.stored (.slice a2 S2.length d1) (.slice b2 L2.length d2)
        have HF := Lib.hid hbF
        clear hbF
        go_wp2_with fail
        refine bodyPost_ret (by simp [results, Try.results42, go_sem, e0, e1]; try rfl) rfl ?_
        exact ⟨S2, L2, a2, d1, b2, d2, i, v, rfl, ((HZ.out.2.setLow (by omega)).setLow (by omega)).base (by omega), HF.out⟩
end Go.Proofs.Ytmfgffgfggkgcaa
