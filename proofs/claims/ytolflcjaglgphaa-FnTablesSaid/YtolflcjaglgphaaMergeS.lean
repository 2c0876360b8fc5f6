/-
  MergeTables of the reference.
-/
import Derived.Test.YtolflcjaglgphaaMerge
namespace Go.Proofs.Ytolflcjaglgphaa
open Go.RowKit
def nilT : Obj := .cells #[.slice none 0 0, .slice none 0 0] 25
theorem call_first {wr w1 : World} {v0 v1 : Value} {ps : List (Nat × Nat)} {ls : List Int} (hb : Below wr.drew.heap.size wr.drew w1) (ht : TabO wr.drew.heap.size w1 v0 v1 ps ls) : Below wr.heap.size wr w1 ∧ TabO wr.heap.size w1 v0 v1 ps ls := ⟨bel_go ((Below.refl _ _).drew) hb, ht⟩
theorem alloc_first {wr w1 : World} {v0 v1 : Value} {ps : List (Nat × Nat)} {ls : List Int} (hb : Below (wr.alloc (.cells #[.slice none 0 0, .slice none 0 0] 25)).drew.heap.size (wr.alloc (.cells #[.slice none 0 0, .slice none 0 0] 25)).drew w1) (ht : TabO (wr.alloc (.cells #[.slice none 0 0, .slice none 0 0] 25)).drew.heap.size w1 v0 v1 ps ls) :
    (Below wr.heap.size wr w1 ∧ TabO wr.heap.size w1 v0 v1 ps ls) ∧ w1.heap[wr.heap.size]? = some (.cells #[.slice none 0 0, .slice none 0 0] 25 (0, 0)) := by
  refine ⟨⟨bel_go (bel_a1 wr _) hb, ht.base (bel_a1 wr _).size⟩, (hb.block _ ?_).trans ?_⟩
  · show _ < (wr.alloc _).heap.size
    simp
  · show (wr.heap.push _)[wr.heap.size]? = _
    rw [Array.getElem?_push, if_pos rfl]
/-- Behind the call: the table lies in a block of its own. -/
structure NX (wr W : World) (N : Nat) (v0 v1 : Value) (t : Tab) : Prop where
  bel : Below wr.heap.size wr W
  tab : TabO wr.heap.size W v0 v1 t.1 t.2
  row : W.heap[N]? = some (.cells #[v0, v1] 25 (0, 0))
theorem NX.one {wr w1 : World} {v0 v1 : Value} {t : Tab} (h : Below wr.heap.size wr w1 ∧ TabO wr.heap.size w1 v0 v1 t.1 t.2) : NX wr (w1.alloc (.cells #[v0, v1] 25)) w1.heap.size v0 v1 t :=
  ⟨bel_al h.1 _, h.2.below (bel_one _ _), by show (w1.heap.push _)[w1.heap.size]? = _; rw [Array.getElem?_push, if_pos rfl]⟩
theorem NX.two {wr w1 : World} {v0 v1 : Value} {t : Tab} (h : (Below wr.heap.size wr w1 ∧ TabO wr.heap.size w1 v0 v1 t.1 t.2) ∧ w1.heap[wr.heap.size]? = some (.cells #[.slice none 0 0, .slice none 0 0] 25 (0, 0))) :
    NX wr ((w1.setCell ⟨wr.heap.size, 0, none⟩ v0).setCell ⟨wr.heap.size, 1, none⟩ v1) wr.heap.size v0 v1 t := by
  have q0 := heap_setCell_same _ _ 0 _ _ v0 h.2
  have q1 := heap_setCell_same _ _ 1 _ _ v1 q0
  exact ⟨(h.1.1.setCell (Nat.le_refl _) _).setCell (Nat.le_refl _) _, ⟨own_set (own_set h.1.2.o0 h.2 (by decide)) q0 (by decide), own_set (own_set h.1.2.o1 h.2 (by decide)) q0 (by decide), h.1.2.wf, h.1.2.le⟩, q1⟩
set_option maxHeartbeats 4000000 in
theorem merge_s (A B : Nat) (v0 v1 u0 u1 : Value) (ps qs : List (Nat × Nat)) (ls ms : List Int) (w : World) (ht : TabO A w v0 v1 ps ls) (hu : TabO B w u0 u1 qs ms) :
    Calls Try.prog 30 #[.agg #[v0, v1], .agg #[u0, u1]] w (TabRet (mergeP (ps, ls) (qs, ms)) w) := by
  obtain ⟨a, ca, rfl⟩ := owns_form ht.o0
  obtain ⟨b, cb, rfl⟩ := owns_form ht.o1
  obtain ⟨c, cc, rfl⟩ := owns_form hu.o0
  obtain ⟨d, cd, rfl⟩ := owns_form hu.o1
  have HT := Lib.hid (show _ ∧ _ from ⟨ht, hu⟩)
  clear ht hu
  go_enter Try.func30, Try.ntmps30
  go_wp2_with fail
  have hS := M0.start w (Value.slice a ps.length ca) (Value.slice b ps.length cb) (Value.slice c qs.length cc) (Value.slice d qs.length cd)
  generalize ((w.alloc (Obj.cells #[Value.slice a ps.length ca, Value.slice b ps.length cb] 25)).alloc (Obj.cells #[Value.slice c qs.length cc, Value.slice d qs.length cd] 25)).alloc (Obj.cells #[Value.slice none 0 0, Value.slice none 0 0] 25) = x at *
  have HX := Lib.hid hS
  clear hS
  refine (isTable_s _ _ ps ls _ (HT.out.1.below HX.out.bel).tabIn).mono ?_
  rintro e y ⟨rfl, hby⟩
  have HY := Lib.hid (HX.out.keep hby)
  clear hby HX
  cases hok : isTab ps ls.length with
  | false =>
    obtain ⟨k0, k1, k2, k3, k4, k5, k6, k7⟩ := HY.out.cells
    obtain ⟨e0, e1, hbF⟩ := HY.out.stored (.slice none 0 0) (.slice none 0 0)
    have HB := Lib.hid hbF
    clear hbF
    go_wp2_with fail
    refine bodyPost_ret (by simp [results, Try.results30, go_sem, e0, e1]; try rfl) rfl ?_
    rw [mergeP_badA hok]
    exact ⟨none, 0, none, 0, rfl, TabO.nil _ _, HB.out⟩
  | true =>
    obtain ⟨k0, k1, k2, k3, k4, k5, k6, k7⟩ := HY.out.cells
    go_wp2_with fail
    clear k0 k1 k2 k3 k4 k5 k6 k7
    refine (isTable_s _ _ qs ms _ (HT.out.2.below HY.out.bel).tabIn).mono ?_
    rintro e y2 ⟨rfl, hby⟩
    have HZ := Lib.hid (HY.out.keep hby)
    clear hby HY
    obtain ⟨k0, k1, k2, k3, k4, k5, k6, k7⟩ := HZ.out.cells
    cases hok2 : isTab qs ms.length with
    | false =>
      obtain ⟨e0, e1, hbF⟩ := HZ.out.stored (.slice none 0 0) (.slice none 0 0)
      have HB := Lib.hid hbF
      clear hbF
      go_wp2_with fail
      refine bodyPost_ret (by simp [results, Try.results30, go_sem, e0, e1]; try rfl) rfl ?_
      rw [mergeP_badB hok2]
      exact ⟨none, 0, none, 0, rfl, TabO.nil _ _, HB.out⟩
    | true =>
      have h64 : ps.length ≤ 64 := (of_decide_eq_true hok).2.1
      have h65 : qs.length ≤ 64 := (of_decide_eq_true hok2).2.1
      go_wp2_with fail
      refine (copyTable_s A A _ _ ps.length ps ls _ (by omega) (HT.out.1.below HZ.out.bel).o0 (HT.out.1.below HZ.out.bel).o1).mono ?_
      rintro e z1 ⟨a1, c1, b1, c2, rfl, o0, o1, hbz⟩
      have HM := Lib.hid (HZ.out.begin hbz rfl o0 o1 HT.out.1.wf (by omega))
      clear o0 o1 hbz k0 k1 k2 k3 k4 k5 k6 k7 HZ
      obtain ⟨m0, m1, -⟩ := HM.out.cells
      go_wp2_with fail
      clear m0 m1
      generalize z1.alloc (.cells #[.slice a1 ps.length c1, .slice b1 ps.length c2] 25) = y3 at *
      generalize z1.heap.size = D at *
      have HQ := Lib.hid (mergeP_good (a := (ps, ls)) (b := (qs, ms)) hok hok2)
      go_loopw [25] (fun kv wr => ∃ (k : Nat) (cur : Tab) (g0 : Option Addr) (q0 : Nat) (g1 : Option Addr) (q1 : Nat), k ≤ qs.length ∧ kv = .int .i64 k ∧ mergeF ((qs.zip ms).take k) (ps, ls) = some cur ∧
        MS w (.slice c qs.length cc) (.slice d qs.length cd) D (.slice g0 cur.1.length q0) (.slice g1 cur.1.length q1) cur wr) (fun kv _ => qs.length - (intOf kv).toNat)
      case atStart => exact ⟨0, (ps, ls), a1, c1, b1, c2, by omega, rfl, rfl, HM.out⟩
      case round =>
        obtain ⟨k, cur, g0, q0, g1, q1, hk, rfl, hcur, hms⟩ := hrel
        have HR := Lib.hid (show _ ∧ _ from ⟨hcur, hms⟩)
        obtain ⟨m0, m1, m2, m3, m4, m5, m6, m7, m8, m9⟩ := hms.cells
        clear hcur hms
        by_cases hlt : (k : Int) < (qs.length : Int)
        · have hk' : k < qs.length := by omega
          have hkm : k < ms.length := by have := HT.out.2.len; omega
          obtain ⟨ga, oa, rfl, hca⟩ : ∃ g off, c = some ⟨g, off, none⟩ ∧ wr.cell? ⟨g, off + k, none⟩ = some (.complex .f32 qs[k].1 qs[k].2) := by
            rcases (slat_own' (HT.out.2.below HR.out.2.bel).o0).2 with h0 | ⟨g, off, rfl, hh⟩
            · omega
            · exact ⟨g, off, rfl, by rw [hh.at (by simpa using hk'), List.getElem_map]; rfl⟩
          obtain ⟨gb, ob, rfl, hcb⟩ : ∃ g off, d = some ⟨g, off, none⟩ ∧ wr.cell? ⟨g, off + k, none⟩ = some (.int .i64 ms[k]) := by
            rcases (slat_own' (HT.out.2.below HR.out.2.bel).o1).2 with h0 | ⟨g, off, rfl, hh⟩
            · omega
            · exact ⟨g, off, rfl, by rw [hh.at (by simpa [ints] using hkm)]; simp [ints]⟩
          have hwz := HT.out.2.wf qs[k] (List.getElem_mem hk')
          have HN := Lib.hid (merge_at hk' hkm HR.out.1)
          have HZ := Lib.hid hwz
          clear hwz
          generalize hzq : qs[k] = zq at *
          generalize ms[k] = lq at *
          clear hzq
          have HS := Lib.hid (HR.out.2.keep ((Below.refl _ _).drew))
          obtain ⟨r, hr⟩ : ∃ r, putP cur.1 cur.2 zq lq = r := ⟨_, rfl⟩
          have HPUT := Lib.hid (fun (w' : World) (h : TabO (w.heap.size + 3) w' (.slice g0 cur.1.length q0) (.slice g1 cur.1.length q1) cur.1 cur.2) => put_s (w.heap.size + 3) (.slice g0 cur.1.length q0) (.slice g1 cur.1.length q1) cur.1 cur.2 zq lq w' h HZ.out)
          rw [hr] at HPUT HN
          clear hr
          go_wp2_with fail
          have HK := Lib.hid (fun (W : World) (h : Below wr.heap.size wr W) => (show W.cell? ⟨D, 0, none⟩ = some (.slice g0 cur.1.length q0) ∧ W.cell? ⟨D, 1, none⟩ = some (.slice g1 cur.1.length q1) ∧ W.cell? ⟨w.heap.size + 1, 1, none⟩ = some (.slice (some ⟨gb, ob, none⟩) qs.length cd) ∧ W.cell? ⟨gb, ob + k, none⟩ = some (.int .i64 lq) from by
            obtain ⟨x0, x1, x2, x3, -⟩ := (HR.out.2.keep h).cells
            exact ⟨x2, x3, x1, by rw [h.cell (p := ⟨gb, ob + k, none⟩) (cell_lt hcb)]; exact hcb⟩))
          go_region_held_law (fun w' => w'.cell? ⟨D, 0, none⟩ = some (.slice g0 cur.1.length q0) ∧ w'.cell? ⟨D, 1, none⟩ = some (.slice g1 cur.1.length q1) ∧ w'.cell? ⟨w.heap.size + 1, 1, none⟩ = some (.slice (some ⟨gb, ob, none⟩) qs.length cd) ∧ w'.cell? ⟨gb, ob + k, none⟩ = some (.int .i64 lq))
            (first
              | exact HK.out _ ((Below.refl _ _).drew)
              | exact HK.out _ (bel_a1 _ _)
              | exact HK.out _ H1.out.1
              | exact HK.out _ H1.out.1.1
              | exact HK.out _ (bel_al H1.out.1 _)
              | exact HK.out _ ((H1.out.1.1.setCell (Nat.le_refl _) _).setCell (Nat.le_refl _) _)
              | exact HK.out _ (((bel_al H1.out.1 _).setCell H1.out.1.size _).setCell H1.out.1.size _))
            (first
              | (go_at_call 17; refine (HPUT.out _ ?_).mono ?_; (exact HS.out.tab); rintro e w1 ⟨pa, pca, pb, pcb, rfl, htab, hb1⟩; have H1 := Lib.hid (call_first hb1 htab); clear htab hb1)
              | (go_at_call 17; refine (HPUT.out _ ?_).mono ?_; (exact (HR.out.2.keep (bel_a1 wr _)).tab); rintro e w1 ⟨pa, pca, pb, pcb, rfl, htab, hb1⟩; have H1 := Lib.hid (alloc_first hb1 htab); clear htab hb1; have n0 := cell_of_row _ _ 0 _ _ _ H1.out.2; have n1 := cell_of_row _ _ 1 _ _ _ H1.out.2; have n2 := frozen_of_row _ _ 0 _ _ H1.out.2; have n3 := frozen_of_row _ _ 1 _ _ H1.out.2))
          all_goals
            first
              | (have HX := Lib.hid (NX.one (t := r.getD ([], [])) H1.out); generalize w1.alloc (.cells #[(.slice pa (r.getD ([], [])).1.length pca), (.slice pb (r.getD ([], [])).1.length pcb)] 25) = W at *; generalize w1.heap.size = N at *)
              | (have HX := Lib.hid (NX.two (t := r.getD ([], [])) H1.out); clear n0 n1 n2 n3; generalize (w1.setCell ⟨wr.heap.size, 0, none⟩ (.slice pa (r.getD ([], [])).1.length pca)).setCell ⟨wr.heap.size, 1, none⟩ (.slice pb (r.getD ([], [])).1.length pcb) = W at *; generalize hN : wr.heap.size = N at HX ⊢; clear hN)
            have H2 := Lib.hid (HR.out.2.keep HX.out.bel)
            clear m0 m1 m2 m3 m4 m5 m6 m7 m8 m9 hca hcb
            have hlow : w.heap.size + 3 ≤ wr.heap.size := by
              have h1 := HS.out.hD
              have h2 := (Array.getElem?_eq_some_iff.1 HS.out.row).1
              have h3 : wr.drew.heap.size = wr.heap.size := rfl
              omega
            clear H1 HK HPUT
            cases r with
            | none =>
              obtain ⟨-, -, -, -, -, -, p0, p1, p2, p3⟩ := H2.out.cells
              obtain ⟨e0, e1, hbF⟩ := H2.out.stored (.slice none 0 0) (.slice none 0 0)
              have HB := Lib.hid hbF
              clear hbF
              go_wp2_with fail
              refine bodyPost_ret (by simp [results, Try.results30, go_sem, e0, e1]; try rfl) rfl ?_
              rw [HQ.out, merge_fail HN.out]
              exact ⟨none, 0, none, 0, rfl, TabO.nil _ _, HB.out⟩
            | some c' =>
              have HX2 := Lib.hid (show NX wr W N (.slice pa c'.1.length pca) (.slice pb c'.1.length pcb) c' from HX.out)
              clear HX
              have x0 := cell_of_row _ _ 0 _ _ _ HX2.out.row
              have x1 := cell_of_row _ _ 1 _ _ _ HX2.out.row
              obtain ⟨-, -, n2, n3, n4, n5, -⟩ := H2.out.cells
              have H3 := Lib.hid (H2.out.store HX2.out.tab hlow)
              go_wp2_with fail
              go_roundw
              case rel => exact ⟨k + 1, c', pa, pca, pb, pcb, by omega, by go_num, HN.out, H3.out⟩
              case measure => simp [intOf]; omega
        · obtain rfl : k = qs.length := by omega
          obtain ⟨e0, e1, hbF⟩ := HR.out.2.stored (.slice g0 cur.1.length q0) (.slice g1 cur.1.length q1)
          clear hbF
          go_wp2_with fail
          refine bodyPost_ret (by simp [results, Try.results30, go_sem, e0, e1]; try rfl) rfl ?_
          have hz : (qs.zip ms).take qs.length = qs.zip ms := List.take_of_length_le (by simp; omega)
          have hf := HR.out.1
          rw [hz] at hf
          rw [HQ.out, hf]
          exact HR.out.2.done
end Go.Proofs.Ytolflcjaglgphaa
