/-
  WindowOf of the reference.
-/
import Derived.Test.YtmfgffgfggkgcaaPvO
namespace Go.Proofs.Ytmfgffgfggkgcaa
open Go.RowKit
/-- The samples of a lease. -/
def winP (S : List (Nat × Nat)) (L : List Ls) (id : Int) : List (Nat × Nat) := (S.drop (lsS (L.getD id.toNat lsD)).toNat).take (lsC (L.getD id.toNat lsD)).toNat
def WinAns (S : List (Nat × Nat)) (L : List Ls) (id : Int) (w : World) (e : Ending) (w' : World) : Prop :=
  (lentP S.length L id = true ∧ ∃ a cap, e = .returned (.tuple #[.slice a (winP S L id).length cap, .bool true]) ∧ OR w' w.heap.size 37 1 (.slice a (winP S L id).length cap) (winP S L id).length ((winP S L id).map cx) ∧ Below w.heap.size w w') ∨
  (lentP S.length L id = false ∧ e = .returned (.tuple #[.slice none 0 0, .bool false]) ∧ Below w.heap.size w w')
theorem winP_at {S : List (Nat × Nat)} {L : List Ls} {k s c : Nat} (hk : k < L.length) (hs : lsS L[k] = s) (hc : lsC L[k] = c) : winP S L k = (S.drop s).take c := by
  unfold winP
  rw [List.getD_eq_getElem?_getD, Int.toNat_natCast, List.getElem?_eq_getElem hk, Option.getD_some, hs, hc, Int.toNat_natCast, Int.toNat_natCast]
theorem OR.subsrc {w : World} {B e n cap s c : Nat} {g : Nat} {xs : List Value} (h : OR w B e 1 (.slice (some ⟨g, 0, none⟩) n cap) n xs) (hn : 0 < n) (hsc : s + c ≤ n) : SrcAt w 1 (some ⟨g, s, none⟩) c ((xs.drop s).take c) := by
  have h := h.own hn
  have hl := h.1
  refine ⟨by simp; omega, .inr ⟨g, s, rfl, fun i hi => ?_⟩⟩
  have hi' : i < c := by simp at hi; omega
  rw [h.cellAt (s + i) (by omega), List.getElem?_take, if_pos hi', List.getElem?_drop]
set_option maxHeartbeats 4000000 in
theorem window_s (B : Nat) (v0 v1 : Value) (S : List (Nat × Nat)) (L : List Ls) (id : Int) (w : World) (hp : PoO B w v0 v1 S L) :
    Calls Try.prog 14 #[.agg #[v0, v1], .int .i64 id] w (WinAns S L id w) := by
  obtain ⟨a, ca, rfl⟩ := hp.o0.open
  obtain ⟨b, cb, rfl⟩ := hp.o1.open
  have hle := hp.le0
  have HT := Lib.hid hp
  clear hp
  obtain ⟨i0, hic, hz0, hz1, hz2⟩ := info_parts cxInfo'
  go_enter Try.func14, Try.ntmps14
  have hb1 := bel_one w (.cells #[.slice a S.length ca, .slice b L.length cb] 25)
  have hx := heap_new w (.cells #[.slice a S.length ca, .slice b L.length cb] 25)
  have HB := Lib.hid (show _ ∧ _ from ⟨hb1, hx⟩)
  clear hb1 hx
  go_wp2_with fail
  refine (lent_s B _ _ S L id _ (HT.out.below HB.out.1)).mono ?_
  rintro e y ⟨rfl, hby⟩
  have HY := Lib.hid (show _ ∧ _ from ⟨bel_go HB.out.1 hby, (hby.block w.heap.size (by simp)).trans HB.out.2⟩)
  clear hby HB
  have hsz : w.heap.size < y.heap.size := (Array.getElem?_eq_some_iff.1 HY.out.2).1
  cases hok : lentP S.length L id with
  | false =>
    have HO := Lib.hid hok
    clear hok
    go_wp2_with fail
    go_ret2
    exact .inr ⟨HO.out, rfl, HY.out.1⟩
  | true =>
    obtain ⟨k, hk, rfl, -, hl, hf⟩ := lentP_at hok
    have HO := Lib.hid hok
    clear hok
    obtain ⟨h1, h2, h3, h4, h5, h6⟩ := in_room hl hf
    obtain ⟨s, hs⟩ : ∃ s : Nat, lsS L[k] = s := ⟨(lsS L[k]).toNat, by omega⟩
    obtain ⟨c, hc⟩ : ∃ c : Nat, lsC L[k] = c := ⟨(lsC L[k]).toNat, by omega⟩
    have hsc : s + c ≤ S.length := by omega
    have hS0 : 0 < S.length := by omega
    have HWn := Lib.hid (winP_at (S := S) hk hs hc)
    obtain ⟨g, rfl, -, c0, c1, c2, c3⟩ := lease_cells (HT.out.below HY.out.1).o1 hk
    obtain ⟨q, rfl, hBq, -⟩ := samp_cell (i := 0) (HT.out.below HY.out.1).o0 hS0
    have k0 := cell_of_row _ _ 0 _ _ _ HY.out.2
    have k1 := cell_of_row _ _ 1 _ _ _ HY.out.2
    simp only [List.getElem?_toArray] at k0 k1
    rw [hs] at c0
    rw [hc] at c1
    rw [hf] at c3
    have HR := Lib.hid (show _ ∧ _ from ⟨h5, h6⟩)
    clear hl hf hs hc h1 h2 h3 h4 h5 h6
    have hcap : S.length ≤ ca := by
      rcases row_val ((HT.out.below HY.out.1).o0.own hS0) with ⟨he, -⟩ | ⟨_, _, he, -, -, h, -⟩
      · cases he
      · cases he; exact h
    go_upto_region 4 with fail
    have HZ := Lib.hid (show _ ∧ _ from ⟨HY.out.1, bel_one y (.cells #[.int .i64 (s : Int), .int .i64 (c : Int), .int .i64 (lsR L[k]), .bool false] 52)⟩)
    have hsrc := ((HT.out.below HY.out.1).o0.subsrc hS0 hsc).below (by omega) (bel_al HZ.out.2 (.cells #[] 37))
    have HS := Lib.hid hsrc
    have hlen := Lib.hid (show (winP S L k).length = c by rw [HWn.out]; simp; omega)
    have hbase : w.heap.size ≤ ((y.alloc (.cells #[.int .i64 (s : Int), .int .i64 (c : Int), .int .i64 (lsR L[k]), .bool false] 52)).alloc (.cells #[] 37)).heap.size := by simp; omega
    clear hsrc
    by_cases hcs : ca = s
    · obtain rfl : c = 0 := by omega
      go_wp2_with (at_builtin; refine wpList_append_or rfl _ _ 22 rfl 37 i0 (.complex .f32 0 0) 1 8 Try.underlying22 hic hz0 hz1 hz2 rfl _ _ 0 _ (((S.map cx).drop s).take 0) rfl rfl ?c1 ?c2 w.heap.size ⟨by simp, .inl rfl⟩ hbase ?_)
      case c1 => unfold maxLen; omega
      case c2 => omega
      intro a' cap' w' hO hb
      have HN := Lib.hid (show _ ∧ _ from ⟨hO, (HZ.out.1.trans (HZ.out.2.mono (by omega))).trans ((bel_one _ _).mono (by simp; omega)) |>.trans (hb.mono (by omega))⟩)
      clear hO hb
      go_wp2_with fail
      go_ret2
      exact .inl ⟨HO.out, some a', cap', by rw [hlen.out]; rfl, by rw [hlen.out, HWn.out, List.map_take, List.map_drop]; exact HN.out.1, HN.out.2⟩
    · go_wp2_with (at_builtin; refine wpList_append_or rfl _ _ 22 rfl 37 i0 (.complex .f32 0 0) 1 8 Try.underlying22 hic hz0 hz1 hz2 rfl _ _ c _ (((S.map cx).drop s).take c) rfl (by show Value.slice _ (s + c - s) _ = _; rw [Nat.add_sub_cancel_left]) ?c1 ?c2 w.heap.size HS.out hbase ?_)
      case c1 => unfold maxLen; omega
      case c2 => omega
      intro a' cap' w' hO hb
      have HN := Lib.hid (show _ ∧ _ from ⟨hO, (HZ.out.1.trans (HZ.out.2.mono (by omega))).trans ((bel_one _ _).mono (by simp; omega)) |>.trans (hb.mono (by omega))⟩)
      clear hO hb
      go_wp2_with fail
      go_ret2
      exact .inl ⟨HO.out, some a', cap', by rw [hlen.out]; rfl, by rw [hlen.out, HWn.out, List.map_take, List.map_drop]; exact HN.out.1, HN.out.2⟩
end Go.Proofs.Ytmfgffgfggkgcaa
