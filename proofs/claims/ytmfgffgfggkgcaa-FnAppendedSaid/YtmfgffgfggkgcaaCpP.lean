/-
  The copy of a pool, of the reference.
-/
import Derived.Test.YtmfgffgfggkgcaaEmpP
import Derived.Deep.RegionHeld3
import Derived.Deep.RegionLaw
import Derived.Deep.RegionHeldLaw
import Derived.Deep.DeepCutAuto
namespace Go.Proofs.Ytmfgffgfggkgcaa
open Go.RowKit
/-- A pool that was made, and what it holds. -/
def CopyP (S : List (Nat × Nat)) (L : List Ls) (w : World) (e : Ending) (w' : World) : Prop :=
  ∃ a ca b cb, e = .returned (.agg #[.slice a S.length ca, .slice b L.length cb]) ∧ PoO w.heap.size w' (.slice a S.length ca) (.slice b L.length cb) S L ∧ Below w.heap.size w w'
/-- The box of the argument and the cell of the result. -/
structure PX (w : World) (v0 v1 : Value) (y : World) : Prop where
  bel : Below w.heap.size w y
  box : y.heap[w.heap.size]? = some (.cells #[v0, v1] 25 (0, 0))
  res : y.heap[w.heap.size + 1]? = some (.cells #[.slice none 0 0, .slice none 0 0] 25 (0, 0))
theorem bel_al {x W : World} (h : Below x.heap.size x W) (o : Obj) : Below x.heap.size x (W.alloc o) := h.alloc h.size _
section
variable {w y y' : World} {v0 v1 : Value}
theorem PX.lt (h : PX w v0 v1 y) : w.heap.size + 1 < y.heap.size := (Array.getElem?_eq_some_iff.1 h.res).1
theorem PX.keep (h : PX w v0 v1 y) (hb : Below y.heap.size y y') : PX w v0 v1 y' := by
  have := h.lt
  exact ⟨bel_go h.bel hb, (hb.block _ (by omega)).trans h.box, (hb.block _ (by omega)).trans h.res⟩
/-- Blocks from B on may have been written. -/
theorem PX.keepB {B : Nat} (h : PX w v0 v1 y) (hb : Below B y y') (hB : w.heap.size + 2 ≤ B) : PX w v0 v1 y' :=
  ⟨h.bel.trans (hb.mono (by omega)), (hb.block _ (by omega)).trans h.box, (hb.block _ (by omega)).trans h.res⟩
theorem PX.start (w : World) (v0 v1 : Value) : PX w v0 v1 ((w.alloc (.cells #[v0, v1] 25)).alloc (.cells #[.slice none 0 0, .slice none 0 0] 25)) := by
  refine ⟨bel_al (bel_one _ _) _, ?_, ?_⟩
  · rw [Below.heap_alloc _ _ _ (by simp)]; exact heap_new _ _
  · have := heap_new (w.alloc (.cells #[v0, v1] 25)) (.cells #[.slice none 0 0, .slice none 0 0] 25)
    rwa [World.size_alloc] at this
theorem PX.cells (h : PX w v0 v1 y) : y.cell? ⟨w.heap.size, 0, none⟩ = some v0 ∧ y.cell? ⟨w.heap.size, 1, none⟩ = some v1 ∧ y.cell? ⟨w.heap.size + 1, 0, none⟩ = some (.slice none 0 0) ∧ y.cell? ⟨w.heap.size + 1, 1, none⟩ = some (.slice none 0 0) ∧
    y.frozen? ⟨w.heap.size + 1, 0, none⟩ = false ∧ y.frozen? ⟨w.heap.size + 1, 1, none⟩ = false :=
  ⟨cell_of_row _ _ 0 _ _ _ h.box, cell_of_row _ _ 1 _ _ _ h.box, cell_of_row _ _ 0 _ _ _ h.res, cell_of_row _ _ 1 _ _ _ h.res, frozen_of_row _ _ 0 _ _ h.res, frozen_of_row _ _ 1 _ _ h.res⟩
/-- The result's cell written. -/
theorem PX.stored (h : PX w v0 v1 y) (u0 u1 : Value) :
    (((y.setCell ⟨w.heap.size + 1, 0, none⟩ u0).setCell ⟨w.heap.size + 1, 1, none⟩ u1).cell? ⟨w.heap.size + 1, 0, none⟩ = some u0) ∧ (((y.setCell ⟨w.heap.size + 1, 0, none⟩ u0).setCell ⟨w.heap.size + 1, 1, none⟩ u1).cell? ⟨w.heap.size + 1, 1, none⟩ = some u1) ∧
    Below w.heap.size w ((y.setCell ⟨w.heap.size + 1, 0, none⟩ u0).setCell ⟨w.heap.size + 1, 1, none⟩ u1) := by
  have r0 := heap_setCell_same _ _ 0 _ _ u0 h.res
  have r1 := heap_setCell_same _ _ 1 _ _ u1 r0
  exact ⟨cell_of_row _ _ 0 _ _ _ r1, cell_of_row _ _ 1 _ _ _ r1, (h.bel.setCell (Nat.le_succ _) _).setCell (Nat.le_succ _) _⟩
end
theorem cxInfo' : (Try.prog.info? 37).map (fun i => (i.zero, i.size, i.bytes)) = some (some (.complex .f32 0 0), 1, 8) := by kernel_rfl
theorem lsInfo : (Try.prog.info? 52).map (fun i => (i.zero, i.size, i.bytes)) = some (some (lsV (0, 0, 0, false)), 4, 32) := by kernel_rfl
theorem bel_a1 (x : World) (A : Obj) : Below x.heap.size x (x.alloc A).drew := (bel_one _ _).drew
theorem bel_a2 (x : World) (A B : Obj) : Below x.heap.size x ((x.alloc A).alloc B).drew := (bel_al (bel_one _ _) _).drew
theorem px_two {w x W : World} {v0 v1 : Value} (h : PX w v0 v1 x) (hk : Kp (w.heap.size + 1) x W) :
    W.cell? ⟨w.heap.size, 0, none⟩ = some v0 ∧ W.cell? ⟨w.heap.size, 1, none⟩ = some v1 := by
  have := h.lt
  have hb := (hk.block w.heap.size (by omega) (by omega)).trans h.box
  exact ⟨cell_of_row _ _ 0 _ _ _ hb, cell_of_row _ _ 1 _ _ _ hb⟩
set_option maxHeartbeats 4000000 in
theorem copy_s (B : Nat) (v0 v1 : Value) (S : List (Nat × Nat)) (L : List Ls) (w : World) (hp : PoO B w v0 v1 S L) :
    Calls Try.prog 45 #[.agg #[v0, v1]] w (CopyP S L w) := by
  obtain ⟨a, ca, rfl⟩ := hp.o0.open
  obtain ⟨b, cb, rfl⟩ := hp.o1.open
  obtain ⟨n, hSn⟩ : ∃ n, n = S.length := ⟨_, rfl⟩
  obtain ⟨m, hLm⟩ : ∃ m, m = L.length := ⟨_, rfl⟩
  have hn : n ≤ 256 := by rw [hSn]; exact hp.le0
  have hm : m ≤ 16 := by rw [hLm]; exact hp.le1
  have HP := Lib.hid hp
  have HL := Lib.hid (show _ ∧ _ from ⟨hSn, hLm⟩)
  have hs0 : SrcAt w 1 a n (S.map cx) := by rw [hSn]; exact hp.o0.src
  have hs1 : SrcAt w 4 b m (rowL L) := by rw [hLm]; exact hp.o1.src
  have HS := Lib.hid (show _ ∧ _ from ⟨hs0, hs1⟩)
  clear hp hs0 hs1
  rw [← hSn, ← hLm]
  clear hSn hLm
  obtain ⟨i0, hic, hz0, hz1, hz2⟩ := info_parts cxInfo'
  obtain ⟨i1, hii, hy0, hy1, hy2⟩ := info_parts lsInfo
  go_enter Try.func45, Try.ntmps45
  go_upto_region 1 with fail
  have hX := PX.start w (.slice a n ca) (.slice b m cb)
  generalize (w.alloc (Obj.cells #[Value.slice a n ca, Value.slice b m cb] 25)).alloc (Obj.cells #[Value.slice none 0 0, Value.slice none 0 0] 25) = x at *
  obtain ⟨k0, k1, k2, k3, k4, k5⟩ := hX.cells
  have hx := hX.lt
  have HX := Lib.hid hX
  clear hX
  have S0 : ∀ W, Below x.heap.size x W → SrcAt W 1 a n (S.map cx) := fun W h => HS.out.1.below (by omega) (bel_go HX.out.bel h)
  have S1 : ∀ W, Below x.heap.size x W → SrcAt W 4 b m (rowL L) := fun W h => HS.out.2.below (by omega) (bel_go HX.out.bel h)
  have HSS := Lib.hid (show _ ∧ _ from ⟨S0, S1⟩)
  have HK := Lib.hid (fun W (h : Kp (w.heap.size + 1) x W) => px_two HX.out h)
  clear S0 S1
  go_region_held_law (fun w' => w'.cell? ⟨w.heap.size, 0, none⟩ = some (.slice a n ca) ∧ w'.cell? ⟨w.heap.size, 1, none⟩ = some (.slice b m cb))
    (first
      | exact HK.out _ (Kp.refl _ _).drew
      | exact HK.out _ (Kp.of_below (bel_a1 _ _))
      | exact HK.out _ (Kp.of_below (bel_a2 _ _ _))
      | exact HK.out _ (((Kp.of_below H2.out.2.2.2).setCell _).setCell _)
      | exact HK.out _ (Kp.of_below H2.out.2.2.2)
      | exact HK.out _ ((Kp.of_below H1.out.2.2).alloc _)
      | exact HK.out _ (Kp.of_below H1.out.2.2))
    (first
    | ((refine step_append_or (by rfl) _ _ 22 (by rfl) 37 i0 (.complex .f32 0 0) 1 8 Try.underlying22 hic hz0 hz1 hz2 rfl _ a n ca (S.map cx) (by rfl) (by rfl) ?_ ?_ x.heap.size ?_ ?_ ?_); (unfold maxLen; omega); omega; (refine HSS.out.1 _ ?_; first | exact bel_a1 _ _ | exact bel_a2 _ _ _); (first | exact (bel_a1 x _).size | exact (bel_a2 x _ _).size);
       (intro g1 q1 w1 ho1 hq1; (first | have hb1 := bel_go (bel_a1 x _) hq1 | have hb1 := bel_go (bel_a2 x _ _) hq1); have H1 := Lib.hid (show _ ∧ _ ∧ _ from ⟨HX.out.keep hb1, ho1, hb1⟩); clear ho1 hq1 hb1))
    | ((refine step_append_or (by rfl) _ _ 23 (by rfl) 52 i1 (lsV (0, 0, 0, false)) 4 32 Try.underlying23 hii hy0 hy1 hy2 rfl _ b m cb (rowL L) (by rfl) (by rfl) ?_ ?_ x.heap.size ?_ ?_ ?_); (unfold maxLen; omega); omega; (refine HSS.out.2 _ ?_; first | exact H1.out.2.2 | exact bel_al H1.out.2.2 _); (first | exact H1.out.2.2.size | exact (bel_al H1.out.2.2 _).size);
       (intro g2 q2 w2 ho2 hq2; (first | have H2 := Lib.hid (show _ ∧ _ ∧ _ ∧ _ from ⟨HX.out.keep (bel_go H1.out.2.2 hq2), H1.out.2.1.below hq2, ho2, bel_go H1.out.2.2 hq2⟩) | have H2 := Lib.hid (show _ ∧ _ ∧ _ ∧ _ from ⟨HX.out.keep (bel_go (bel_al H1.out.2.2 _) hq2), (H1.out.2.1.below (bel_one _ _)).below hq2, ho2, bel_go (bel_al H1.out.2.2 _) hq2⟩)); clear ho2 hq2; obtain ⟨m0, m1, m2, m3, m4, m5⟩ := H2.out.1.cells)))
  all_goals
    obtain ⟨e0, e1, hbF⟩ := H2.out.1.stored (.slice (some g1) n q1) (.slice (some g2) m q2)
    have HF := Lib.hid hbF
    clear hbF
    go_wp2_with fail
    refine bodyPost_ret (by simp [results, Try.results45, go_sem, e0, e1]; try rfl) rfl ?_
    have o0 := H2.out.2.1
    have o1 := H2.out.2.2.1
    obtain ⟨rfl, rfl⟩ := HL.out
    exact ⟨_, q1, _, q2, rfl, ⟨((o0.setLow hx).setLow hx).base (by omega), ((o1.setLow hx).setLow hx).base (by omega), HP.out.wf, HP.out.le0, HP.out.le1⟩, HF.out⟩
end Go.Proofs.Ytmfgffgfggkgcaa
