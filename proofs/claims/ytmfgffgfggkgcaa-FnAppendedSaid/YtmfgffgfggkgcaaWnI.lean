/-
  WindowOf of the program.
-/
import Derived.Test.YtmfgffgfggkgcaaWiI
namespace Go.Proofs.Ytmfgffgfggkgcaa
open Go.RowKit
set_option maxHeartbeats 4000000 in
theorem window_i (B : Nat) (v0 v1 : Value) (S : List (Nat × Nat)) (L : List Ls) (id : Int) (w : World) (hp : PoO B w v0 v1 S L) :
    Calls Try.prog 27 #[.agg #[v0, v1], .int .i64 id] w (WinAns S L id w) := by
  obtain ⟨a, ca, rfl⟩ := hp.o0.open
  obtain ⟨b, cb, rfl⟩ := hp.o1.open
  have hle := hp.le0
  have HT := Lib.hid hp
  clear hp
  go_enter Try.func27, Try.ntmps27
  have hb1 := bel_one w (.cells #[.slice a S.length ca, .slice b L.length cb] 25)
  have hx := heap_new w (.cells #[.slice a S.length ca, .slice b L.length cb] 25)
  have HB := Lib.hid (show _ ∧ _ from ⟨hb1, hx⟩)
  clear hb1 hx
  go_wp2_with fail
  refine (isPool_i B _ _ S L _ (HT.out.below HB.out.1)).mono ?_
  rintro e y1 ⟨rfl, hby⟩
  have HY1 := Lib.hid (show _ ∧ _ from ⟨bel_go HB.out.1 hby, (hby.block w.heap.size (by simp)).trans HB.out.2⟩)
  clear hby HB
  have hk0 := cell_of_row _ _ 0 _ _ _ HY1.out.2
  have hk1 := cell_of_row _ _ 1 _ _ _ HY1.out.2
  simp only [List.getElem?_toArray] at hk0 hk1
  cases hv : isPoolP S.length L with
  | false =>
    have HO := Lib.hid (show lentP S.length L id = false by rw [lentP_of, hv]; rfl)
    clear hv
    go_wp2_with fail
    go_ret2
    exact .inr ⟨HO.out, rfl, HY1.out.1⟩
  | true =>
    have HV := Lib.hid hv
    clear hv
    go_wp2_with fail
    refine (isLent_i B _ _ S L id _ (HT.out.below HY1.out.1)).mono ?_
    rintro e y ⟨rfl, hby⟩
    have hsz1 : w.heap.size < y1.heap.size := (Array.getElem?_eq_some_iff.1 HY1.out.2).1
    have HY := Lib.hid (show _ ∧ _ from ⟨bel_go HY1.out.1 hby, (hby.block w.heap.size hsz1).trans HY1.out.2⟩)
    clear hby hk0 hk1
    have hsz : w.heap.size < y.heap.size := (Array.getElem?_eq_some_iff.1 HY.out.2).1
    have hle2 : lentP S.length L id = lentI L id := by rw [lentP_of, HV.out, Bool.true_and]
    cases hok : lentI L id with
    | false =>
      have HO := Lib.hid (hle2.trans hok)
      clear hok hle2
      go_wp2_with fail
      go_ret2
      exact .inr ⟨HO.out, rfl, HY.out.1⟩
    | true =>
      have hok2 := hle2.trans hok
      obtain ⟨k, hk, rfl, -, hl, hf⟩ := lentP_at hok2
      have HO := Lib.hid hok2
      clear hok hle2 hok2
      obtain ⟨h1, h2, h3, h4, h5, h6⟩ := in_room hl hf
      obtain ⟨s, hs⟩ : ∃ s : Nat, lsS L[k] = s := ⟨(lsS L[k]).toNat, by omega⟩
      obtain ⟨c, hc⟩ : ∃ c : Nat, lsC L[k] = c := ⟨(lsC L[k]).toNat, by omega⟩
      have hsc : s + c ≤ S.length := by omega
      have hS0 : 0 < S.length := by omega
      have HWn := Lib.hid (winP_at (S := S) hk hs hc)
      obtain ⟨g, rfl, -, c0, c1, c2, c3⟩ := lease_cells (HT.out.below HY.out.1).o1 hk
      obtain ⟨q, rfl, hBq, -⟩ := samp_cell (i := 0) (HT.out.below HY.out.1).o0 hS0
      have k0 := cell_of_row _ _ 0 _ _ _ HY.out.2
      have k1 := cell_of_row _ _ 1 _ _ _ HY.out.2
      simp only [List.getElem?_toArray] at k0 k1
      rw [hs] at c0
      rw [hc] at c1
      rw [hf] at c3
      clear hl hf hs hc h1 h2 h3 h4 h5 h6
      have hcap : S.length ≤ ca := by
        rcases row_val ((HT.out.below HY.out.1).o0.own hS0) with ⟨he, -⟩ | ⟨_, _, he, -, -, h, -⟩
        · cases he
        · cases he; exact h
      go_upto_region 4 with fail
      have HZ := Lib.hid (show _ ∧ _ from ⟨HY.out.1, bel_one y (.cells #[.int .i64 (s : Int), .int .i64 (c : Int), .int .i64 (lsR L[k]), .bool false] 52)⟩)
      have hsrc := ((HT.out.below HY.out.1).o0.subsrc hS0 hsc).below (by omega) HZ.out.2
      have HS := Lib.hid hsrc
      have hlen := Lib.hid (show (winP S L k).length = c by rw [HWn.out]; simp; omega)
      clear hsrc
      by_cases hcs : ca = s
      · obtain rfl : c = 0 := by omega
        go_wp2_with fail
        refine (clone_c _ 0 _ [] _ (by omega) ⟨rfl, .inl rfl⟩ (by intro h; cases h)).mono ?_
        rintro e w' ⟨a', cap', rfl, hO, hb⟩
        have HN := Lib.hid (show _ ∧ _ from ⟨hO, (bel_go HZ.out.1 HZ.out.2).trans (hb.mono (by simp; omega))⟩)
        clear hO hb
        go_wp2_with fail
        go_ret2
        refine .inl ⟨HO.out, a', cap', by rw [hlen.out]; rfl, ?_, HN.out.2⟩
        rw [hlen.out, HWn.out, List.take_zero]
        exact HN.out.1.base (by simp; omega)
      · go_wp2_with fail
        refine (clone_c _ c _ _ _ (by omega) HS.out (by intro h; cases h)).mono ?_
        rintro e w' ⟨a', cap', rfl, hO, hb⟩
        have HN := Lib.hid (show _ ∧ _ from ⟨hO, (bel_go HZ.out.1 HZ.out.2).trans (hb.mono (by simp; omega))⟩)
        clear hO hb
        go_wp2_with fail
        go_ret2
        refine .inl ⟨HO.out, a', cap', by rw [hlen.out]; rfl, ?_, HN.out.2⟩
        rw [hlen.out, HWn.out, List.map_take, List.map_drop]
        exact HN.out.1.base (by simp; omega)
end Go.Proofs.Ytmfgffgfggkgcaa
