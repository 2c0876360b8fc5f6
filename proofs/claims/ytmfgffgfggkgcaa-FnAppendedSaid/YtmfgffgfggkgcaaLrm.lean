/-
  LendRoom of the reference.
-/
import Derived.Test.YtmfgffgfggkgcaaLnd
namespace Go.Proofs.Ytmfgffgfggkgcaa
open Go.RowKit
set_option maxHeartbeats 4000000 in
theorem lend_s (B : Nat) (v0 v1 : Value) (S : List (Nat × Nat)) (L : List Ls) (room : Int) (w : World) (hp : PoO B w v0 v1 S L) :
    Calls Try.prog 40 #[.agg #[v0, v1], .int .i64 room] w (PoolR3 w.heap.size w) := by
  obtain ⟨a, ca, rfl⟩ := hp.o0.open
  obtain ⟨b, cb, rfl⟩ := hp.o1.open
  have HT := Lib.hid hp
  have hle := hp.le0
  clear hp
  go_enter Try.func40, Try.ntmps40
  go_wp2_with fail
  have hX := PX.start w (.slice a S.length ca) (.slice b L.length cb)
  generalize (w.alloc (Obj.cells #[Value.slice a S.length ca, Value.slice b L.length cb] 25)).alloc (Obj.cells #[Value.slice none 0 0, Value.slice none 0 0] 25) = x at *
  have HX := Lib.hid hX
  clear hX
  refine (isPool_s B _ _ S L _ (HT.out.below HX.out.bel)).mono ?_
  rintro e y ⟨rfl, hby⟩
  have HY := Lib.hid (HX.out.keep hby)
  clear hby HX
  obtain ⟨k0, k1, k2, k3, k4, k5⟩ := HY.out.cells
  obtain ⟨e0, e1, hbF⟩ := HY.out.stored (.slice none 0 0) (.slice none 0 0)
  have HB := Lib.hid hbF
  clear hbF
  by_cases hr : room < 1
  · cases hok : isPoolP S.length L with
    | false =>
      go_wp2_with fail
      refine bodyPost_ret (by simp [results, Try.results40, go_sem, e0, e1]; try rfl) rfl ?_
      exact ⟨[], [], none, 0, none, 0, 0, false, rfl, PoO.nil _ _, HB.out⟩
    | true =>
      go_wp2_with fail
      refine bodyPost_ret (by simp [results, Try.results40, go_sem, e0, e1]; try rfl) rfl ?_
      exact ⟨[], [], none, 0, none, 0, 0, false, rfl, PoO.nil _ _, HB.out⟩
  · cases hok : isPoolP S.length L with
    | false =>
      go_wp2_with fail
      refine bodyPost_ret (by simp [results, Try.results40, go_sem, e0, e1]; try rfl) rfl ?_
      exact ⟨[], [], none, 0, none, 0, 0, false, rfl, PoO.nil _ _, HB.out⟩
    | true =>
      have HO := Lib.hid (pool_oks hok)
      clear hok e0 e1 HB
      go_wp2_with fail
      refine (taken_any B _ _ S L _ (HT.out.below HY.out.bel)).mono ?_
      rintro e z (⟨-, c, cc, rfl, hown, hbz⟩ | ⟨hno, -⟩)
      · have HZ := Lib.hid (show _ ∧ _ from ⟨HY.out.keep hbz, hown⟩)
        clear hown hbz HY k0 k1 k2 k3 k4 k5
        have hlen := cntL_len S.length L
        obtain ⟨k0, k1, k2, k3, k4, k5⟩ := HZ.out.1.cells
        go_wp2_with fail
        go_loop [28, 9] (fun t q => ∃ i n : Nat, i ≤ S.length ∧ n ≤ i ∧ t = .int .i64 i ∧ q = .int .i64 n) (fun t _ => S.length - (intOf t).toNat)
        case atStart => exact ⟨0, 0, by omega, by omega, rfl, rfl⟩
        case round =>
          obtain ⟨i, n, hi, hn, rfl, rfl⟩ := hrel
          by_cases hlt : (i : Int) < (S.length : Int)
          · have hil : i < (cntL S.length L).length := by omega
            have his : i < S.length := by omega
            rcases row_val HZ.out.2 with ⟨-, h0⟩ | ⟨g, cap, he, -⟩
            · omega
            · obtain ⟨rfl, rfl⟩ : c = some ⟨g, 0, none⟩ ∧ cc = cap := by cases he; exact ⟨rfl, rfl⟩
              have hc : z.cell? ⟨g, i, none⟩ = some (.int .i64 (cntL S.length L)[i]) := by
                have := HZ.out.2.cellAt i (by omega)
                rw [this]; unfold ints; rw [List.getElem?_map, List.getElem?_eq_getElem hil]; rfl
              clear he
              generalize hx : (cntL S.length L)[i] = q at *
              clear hx
              by_cases hq : 0 < q
              · have hnr : ¬ room = 0 := by omega
                go_wp2_with fail
                go_round
                case rel => exact ⟨i + 1, 0, by omega, by omega, by go_num, rfl⟩
                case measure => simp [intOf]; omega
              · by_cases hnr : (n : Int) + 1 = room
                · subst hnr
                  go_wp2_with fail
                  refine (copy_s B _ _ S L _ (HT.out.below HZ.out.1.bel)).mono ?_
                  rintro e z1 ⟨a1, c1, b1, c2, rfl, o, hbz⟩
                  have HV := Lib.hid (PV.start HZ.out.1 hbz o)
                  clear o hbz k0 k1 k2 k3 k4 k5 hc
                  obtain ⟨g1, rfl, -⟩ := samp_cell (i := 0) HV.out.po.o0 (by omega)
                  obtain ⟨k0, k1, -, -⟩ := HV.out.cells
                  go_upto_region 13 with fail
                  generalize z1.alloc (.cells #[.slice (some ⟨g1, 0, none⟩) S.length c1, .slice b1 L.length c2] 25) = y2 at *
                  generalize z1.heap.size = D at *
                  clear k0 k1
                  have hstart : (i : Int) - ((n : Int) + 1) + 1 = ((i - n : Nat) : Int) := by omega
                  have HSt := Lib.hid hstart
                  clear hstart
                  go_wp2_with fail
                  go_loopw [12] (fun t wr => ∃ (k : Nat) (S' : List (Nat × Nat)), k ≤ i + 1 ∧ t = .int .i64 k ∧ S.length = S'.length ∧ PV w (.slice a S.length ca) (.slice b L.length cb) D z.heap.size (.slice (some ⟨g1, 0, none⟩) S.length c1) (.slice b1 L.length c2) S' L wr) (fun t _ => i + 1 - (intOf t).toNat)
                  case atStart => exact ⟨i - n, S, by omega, by rw [HSt.out], rfl, HV.out⟩
                  case round =>
                    clear HV
                    obtain ⟨k, S', hk, rfl, hSS, hV⟩ := hrel
                    have HSS := Lib.hid hSS
                    have HV := Lib.hid hV
                    obtain ⟨k0, k1, -, -⟩ := hV.cells
                    clear hV hSS
                    by_cases hki : (k : Int) ≤ (i : Int)
                    · have hj : k < S'.length := by rw [← HSS.out]; omega
                      have hjn : k < S.length := by omega
                      obtain ⟨t0, t1⟩ := HV.out.cell HSS.out hj
                      have HN := Lib.hid (HV.out.samp hj HSS.out (0, 0) (by decide))
                      go_wp2_with fail
                      go_roundw
                      case rel => exact ⟨k + 1, S'.set k (0, 0), by omega, by go_num, by rw [List.length_set]; exact HSS.out, HN.out⟩
                      case measure => simp [intOf]; omega
                    · have hBz := HV.out.hB
                      have hDz := HV.out.lt
                      have hpo := HV.out.po
                      rw [HSS.out] at hpo
                      have hS0 : 0 < S'.length := by rw [← HSS.out]; omega
                      have hg1 := OR.lt hpo.o0 hS0
                      obtain ⟨g', e, hBg, -⟩ := samp_cell (i := 0) hpo.o0 hS0
                      cases e
                      clear hpo hS0
                      have HBL := Lib.hid (show z.heap.size ≤ wr.heap.size by omega)
                      go_wp2_with fail
                      refine (lput_s z.heap.size _ _ S' L _ _ _ _ _ HV.out.po HBL.out).mono ?_
                      rintro e z2 ⟨S2, L2, a2, d1, b2, d2, j, v, rfl, ho, hb⟩
                      have HU := Lib.hid (show _ ∧ _ from ⟨HV.out.arg.keepB hb hBz, ho⟩)
                      clear hb ho k0 k1
                      obtain ⟨k0, k1, k2, k3, k4, k5⟩ := HU.out.1.cells
                      obtain ⟨e0, e1, hbF⟩ := HU.out.1.stored (.slice a2 S2.length d1) (.slice b2 L2.length d2)
                      have HF := Lib.hid hbF
                      clear hbF
                      go_wp2_with fail
                      refine bodyPost_ret (by simp [results, Try.results40, go_sem, e0, e1]; try rfl) rfl ?_
                      exact ⟨S2, L2, a2, d1, b2, d2, j, v, rfl, ((HU.out.2.setLow (by omega)).setLow (by omega)).base (by omega), HF.out⟩
                · go_wp2_with fail
                  go_round
                  case rel => exact ⟨i + 1, n + 1, by omega, by omega, by go_num, by go_num⟩
                  case measure => simp [intOf]; omega
          · obtain ⟨e0, e1, hbF⟩ := HZ.out.1.stored (.slice none 0 0) (.slice none 0 0)
            have HB := Lib.hid hbF
            clear hbF
            go_wp2_with fail
            refine bodyPost_ret (by simp [results, Try.results40, go_sem, e0, e1]; try rfl) rfl ?_
            exact ⟨[], [], none, 0, none, 0, 0, false, rfl, PoO.nil _ _, HB.out⟩
      · rw [HO.out] at hno; cases hno
end Go.Proofs.Ytmfgffgfggkgcaa
