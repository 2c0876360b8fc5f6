/-
  TurnTable of the program, at a valid table whose products are told and make a valid table.
-/
import Derived.Test.YtolflcjaglgphaaMulW
import Derived.Test.YtolflcjaglgphaaCopy
import Derived.Test.YtolflcjaglgphaaIsTab
import Derived.Deep.RegionWith
namespace Go.Proofs.Ytolflcjaglgphaa
open Go.RowKit
theorem tabIn_own {w : World} {b1 b2 n m : Nat} {v0 v1 : Value} {ps : List (Nat × Nat)} {ls : List Int} (h0 : w.ownsRow b1 33 1 v0 n (ps.map cx)) (h1 : w.ownsRow b2 3 1 v1 m (ints ls)) (hn : n ≤ 1048576) (hm : m ≤ 1048576) (hw : ∀ p ∈ ps, p.1 < 4294967296 ∧ p.2 < 4294967296) : TabIn w v0 v1 ps ls := by
  obtain ⟨a, ca, rfl, s0⟩ := own_slat h0
  obtain ⟨b, cb, rfl, s1⟩ := own_slat h1
  have c0 : n ≤ ca ∧ ca ≤ 9223372036854775807 := by
    rcases h0.2 with ⟨h, rfl⟩ | ⟨g, c, cur, h, _, _, h2, h3, _⟩
    · cases h; omega
    · cases h; exact ⟨h2, Nat.le_trans h3 (by decide)⟩
  have c1 : m ≤ cb ∧ cb ≤ 9223372036854775807 := by
    rcases h1.2 with ⟨h, rfl⟩ | ⟨g, c, cur, h, _, _, h2, h3, _⟩
    · cases h; omega
    · cases h; exact ⟨h2, Nat.le_trans h3 (by decide)⟩
  exact ⟨a, n, ca, b, m, cb, rfl, rfl, s0, s1, c0.1, c0.2, c1.1, c1.2, hn, hm, hw⟩
def TurnAns (n : Nat) (qs : List (Nat × Nat)) (ls : List Int) (w : World) (e : Ending) (w' : World) : Prop :=
  ∃ a ca b cb, e = .returned (.tuple #[.agg #[.slice a n ca, .slice b n cb], .bool true]) ∧ w'.ownsRow w.heap.size 33 1 (.slice a n ca) n (qs.map cx) ∧ w'.ownsRow w.heap.size 3 1 (.slice b n cb) n (ints ls) ∧ Below w.heap.size w w'
theorem set_mid {qs ps : List (Nat × Nat)} {k : Nat} (hl : qs.length = ps.length) (hk : k < ps.length) : ((qs.take k ++ ps.drop k).map cx).set k (cx (qs[k]'(by omega))) = (qs.take (k + 1) ++ ps.drop (k + 1)).map cx := by
  rw [List.map_append, List.set_append_right _ _ (by simp; omega), List.length_map, List.length_take, Nat.min_eq_left (by omega), Nat.sub_self, List.drop_eq_getElem_cons hk, List.map_cons]
  have h : (qs.take (k + 1)).map cx = (qs.take k).map cx ++ [cx (qs[k]'(by omega))] := by rw [List.take_succ_eq_append_getElem (by omega), List.map_append]; rfl
  rw [List.map_append, h, List.append_assoc]; rfl
set_option maxHeartbeats 4000000 in
theorem turn_i (b1 b2 : Nat) (v0 v1 : Value) (n : Nat) (ps qs : List (Nat × Nat)) (ls : List Int) (t : Nat × Nat) (w : World) (hn1 : 1 ≤ n) (hn : n ≤ 64) (h0 : w.ownsRow b1 33 1 v0 n (ps.map cx)) (h1 : w.ownsRow b2 3 1 v1 n (ints ls))
    (hw : ∀ p ∈ ps, p.1 < 4294967296 ∧ p.2 < 4294967296) (hw2 : ∀ p ∈ qs, p.1 < 4294967296 ∧ p.2 < 4294967296) (hql : qs.length = ps.length) (hmul : ∀ i (hi : i < ps.length), mulP ps[i] t = some (qs[i]'(by omega)))
    (hok : isTab ps ls.length = true) (hok2 : isTab qs ls.length = true) :
    Calls Try.prog 26 #[.agg #[v0, v1], cx t] w (TurnAns n qs ls w) := by
  have hl : ps.length = n := by simpa using h0.1
  have hl2 : ls.length = n := by simpa [ints] using h1.1
  have hb : ∀ o o', Below w.heap.size w ((w.alloc o).alloc o') := fun o o' => ((Below.refl _ _).alloc (Nat.le_refl _) _).alloc (by simp) _
  have HT := Lib.hid (tabIn_own h0 h1 (by omega) (by omega) hw)
  obtain ⟨a, ca, rfl⟩ := owns_form h0
  obtain ⟨b, cb, rfl⟩ := owns_form h1
  have HO := Lib.hid (show _ ∧ _ from ⟨h0, h1⟩)
  have HM := Lib.hid (show _ ∧ _ ∧ _ from ⟨hmul, hw2, hok2⟩)
  clear h0 h1 hmul hw2 hok2 hw
  go_enter Try.func26, Try.ntmps26
  go_wp2_with fail
  have hx : Below w.heap.size w ((w.alloc (Obj.cells #[Value.slice a n ca, Value.slice b n cb] 25)).alloc (Obj.cells #[Value.slice none 0 0, Value.slice none 0 0] 25)) := hb _ _
  have hh0 : ((w.alloc (Obj.cells #[Value.slice a n ca, Value.slice b n cb] 25)).alloc (Obj.cells #[Value.slice none 0 0, Value.slice none 0 0] 25)).heap[w.heap.size]? = some (.cells #[Value.slice a n ca, Value.slice b n cb] 25 (0, 0)) := by
    show ((w.heap.push _).push _)[w.heap.size]? = _
    rw [Array.getElem?_push, if_neg (by simp), Array.getElem?_push, if_pos rfl]
  have hh1 : ((w.alloc (Obj.cells #[Value.slice a n ca, Value.slice b n cb] 25)).alloc (Obj.cells #[Value.slice none 0 0, Value.slice none 0 0] 25)).heap[w.heap.size + 1]? = some (.cells #[Value.slice none 0 0, Value.slice none 0 0] 25 (0, 0)) := by
    show ((w.heap.push _).push _)[w.heap.size + 1]? = _
    rw [Array.getElem?_push, if_pos (by simp)]
  clear hb
  generalize (w.alloc (Obj.cells #[Value.slice a n ca, Value.slice b n cb] 25)).alloc (Obj.cells #[Value.slice none 0 0, Value.slice none 0 0] 25) = x at *
  have HX := Lib.hid (show _ ∧ _ ∧ _ from ⟨hx, hh0, hh1⟩)
  clear hx hh0 hh1
  refine (isTable_i _ _ ps ls _ (HT.out.below HX.out.1)).mono ?_
  rintro e y ⟨rfl, hby⟩
  rw [hok]
  have HY := Lib.hid (show _ ∧ _ ∧ _ from ⟨HX.out.1.trans (hby.mono HX.out.1.size), (hby.block _ (Array.getElem?_eq_some_iff.1 HX.out.2.1).1).trans HX.out.2.1, (hby.block _ (Array.getElem?_eq_some_iff.1 HX.out.2.2).1).trans HX.out.2.2⟩)
  clear hby HX
  have d0 : y.cell? ⟨w.heap.size, 0, none⟩ = some (.slice a n ca) := cell_of_row _ _ 0 _ _ _ HY.out.2.1
  have d1 : y.cell? ⟨w.heap.size, 1, none⟩ = some (.slice b n cb) := cell_of_row _ _ 1 _ _ _ HY.out.2.1
  go_wp2_with fail
  refine (copyTable_i b1 b2 _ _ n n ps ls _ (by omega) (by omega) (own_below HO.out.1 HY.out.1) (own_below HO.out.2 HY.out.1)).mono ?_
  rintro e z ⟨a2, ca2, b2', cb2, rfl, o0, o1, hbz⟩
  obtain ⟨g, cap, hs, hg⟩ := owns_some o0 hn1
  obtain ⟨rfl, rfl⟩ : a2 = some ⟨g, 0, none⟩ ∧ ca2 = cap := by cases hs; exact ⟨rfl, rfl⟩
  clear hs
  have hal : ∀ o, Below z.heap.size z (z.alloc o) := fun o => (Below.refl _ _).alloc (Nat.le_refl _) _
  have hzz : w.heap.size + 1 < y.heap.size := (Array.getElem?_eq_some_iff.1 HY.out.2.2).1
  have HZ := Lib.hid (show _ ∧ _ ∧ _ ∧ _ ∧ _ from ⟨hbz, (hbz.block _ (Array.getElem?_eq_some_iff.1 HY.out.2.2).1).trans HY.out.2.2, own_below o0 (hal (Obj.cells #[Value.slice (some ⟨g, 0, none⟩) n ca2, Value.slice b2' n cb2] 25)), own_below o1 (hal (Obj.cells #[Value.slice (some ⟨g, 0, none⟩) n ca2, Value.slice b2' n cb2] 25)), (show z.heap.size ≠ g from fun h => by have := (World.ownsRow.lt o0 g rfl).2; omega)⟩)
  have hgz : g < z.heap.size := (World.ownsRow.lt o0 g rfl).2
  clear o0 o1 hbz hal d0 d1
  have hDg : z.heap.size ≠ g := HZ.out.2.2.2.2
  go_wp2_with fail
  have hv : (z.alloc (Obj.cells #[Value.slice (some ⟨g, 0, none⟩) n ca2, Value.slice b2' n cb2] 25)).heap[z.heap.size]? = some (.cells #[Value.slice (some ⟨g, 0, none⟩) n ca2, Value.slice b2' n cb2] 25 (0, 0)) := by
    show (z.heap.push _)[z.heap.size]? = _
    rw [Array.getElem?_push, if_pos rfl]
  have hvb : Below y.heap.size y (z.alloc (Obj.cells #[Value.slice (some ⟨g, 0, none⟩) n ca2, Value.slice b2' n cb2] 25)) := HZ.out.1.alloc HZ.out.1.size _
  generalize hX : z.alloc (Obj.cells #[Value.slice (some ⟨g, 0, none⟩) n ca2, Value.slice b2' n cb2] 25) = x2 at *
  clear hX
  generalize hD : z.heap.size = D at *
  clear hD
  have HV := Lib.hid (show _ ∧ _ from ⟨hv, hvb⟩)
  clear hv hvb
  go_loopw [18] (fun kv wr => ∃ k : Nat, k ≤ n ∧ kv = .int .i64 k ∧ wr.ownsRow y.heap.size 33 1 (.slice (some ⟨g, 0, none⟩) n ca2) n ((qs.take k ++ ps.drop k).map cx) ∧ Kp g x2 wr) (fun kv _ => n - (intOf kv).toNat)
  case atStart => exact ⟨0, by omega, rfl, by simpa using HZ.out.2.2.1, Kp.refl _ _⟩
  case round =>
    obtain ⟨k, hk, rfl, hown, hkp⟩ := hrel
    have hvk := hkp.heap HV.out.1 hDg
    have c0 : wr.cell? ⟨D, 0, none⟩ = some (.slice (some ⟨g, 0, none⟩) n ca2) := cell_of_row _ _ 0 _ _ _ hvk
    have c1 : wr.cell? ⟨D, 1, none⟩ = some (.slice b2' n cb2) := cell_of_row _ _ 1 _ _ _ hvk
    by_cases hlt : (k : Int) < (n : Int)
    · have hk' : k < ps.length := by omega
      have hcx : wr.cell? ⟨g, k, none⟩ = some (cx ps[k]) := by
        rw [hown.cellAt k (by omega), List.map_append, List.getElem?_append_right (by simp; omega), List.length_map, List.length_take, Nat.min_eq_left (by omega), Nat.sub_self, List.getElem?_map, List.getElem?_drop, Nat.add_zero, List.getElem?_eq_getElem hk']; rfl
      have hs := hown.stored k (cx (qs[k]'(by omega)))
      rw [set_mid hql hk'] at hs
      have hf := hown.frozenAt k
      have HS := Lib.hid (show _ ∧ _ from ⟨hs, hkp⟩)
      clear hs hown hkp hvk
      have hmk := HM.out.1 k hk'
      have HK := Lib.hid hmk
      clear hmk
      go_wp2_with fail
      go_region_with (go_at_call 27; refine (multiply_i ps[k] t _ _ HK.out).mono ?_; rintro e w3 ⟨rfl, q, rfl⟩)
      all_goals
        go_wp2_with fail
        exact ⟨⟨k + 1, by omega, by go_num, HS.out.1.1, HS.out.2.drewN.setCell _⟩, by simp [intOf]; omega⟩
    · obtain rfl : k = n := by omega
      have hgr : x2.grownBy wr (some g) := grown_kp hkp
      have hbw : Below y.heap.size y wr := HV.out.2.trans (hkp.below hg HV.out.2.size)
      have ho1 : wr.ownsRow y.heap.size 3 1 (.slice b2' k cb2) k (ints ls) := HZ.out.2.2.2.1.kept hgr (own_apart HZ.out.2.2.2.1 HZ.out.2.2.1 (by decide))
      have ho0 : wr.ownsRow y.heap.size 33 1 (.slice (some ⟨g, 0, none⟩) k ca2) k (qs.map cx) := by
        have h1 : qs.take k = qs := List.take_of_length_le (by omega)
        have h2 : ps.drop k = [] := List.drop_eq_nil_of_le (by omega)
        rw [h1, h2, List.append_nil] at hown
        exact hown
      have hr : wr.heap[w.heap.size + 1]? = some (.cells #[.slice none 0 0, .slice none 0 0] 25 (0, 0)) := (hbw.block _ hzz).trans HY.out.2.2
      have HW := Lib.hid (show _ ∧ _ ∧ _ ∧ _ ∧ _ from ⟨ho0, ho1, hr, (show Below w.heap.size w wr from HY.out.1.trans (hbw.mono HY.out.1.size)), tabIn_own ho0 ho1 (by omega) (by omega) HM.out.2.1⟩)
      have hDw : D < wr.heap.size := (Array.getElem?_eq_some_iff.1 hvk).1
      have hDne : D ≠ w.heap.size + 1 := by omega
      have hzw : w.heap.size + 1 < wr.heap.size := (Array.getElem?_eq_some_iff.1 hr).1
      clear hgr hbw ho1 ho0 hr hkp hown hvk
      go_wp2_with fail
      refine (isTable_i _ _ qs ls _ HW.out.2.2.2.2).mono ?_
      rintro e v ⟨rfl, hbv⟩
      rw [HM.out.2.2]
      have hr : v.heap[w.heap.size + 1]? = some (.cells #[.slice none 0 0, .slice none 0 0] 25 (0, 0)) := (hbv.block _ hzw).trans HW.out.2.2.1
      have e0 : v.cell? ⟨D, 0, none⟩ = some (.slice (some ⟨g, 0, none⟩) k ca2) := by rw [hbv.cell (p := ⟨D, 0, none⟩) hDw]; exact c0
      have e1 : v.cell? ⟨D, 1, none⟩ = some (.slice b2' k cb2) := by rw [hbv.cell (p := ⟨D, 1, none⟩) hDw]; exact c1
      have f0 := frozen_of_row v _ 0 _ _ hr
      have f1 := frozen_of_row v _ 1 _ _ hr
      have p0 := cell_of_row v _ 0 _ _ _ hr
      have p1 := cell_of_row v _ 1 _ _ _ hr
      have r0 := heap_setCell_same _ _ 0 _ _ (Value.slice (some ⟨g, 0, none⟩) k ca2) hr
      have r1 := heap_setCell_same _ _ 1 _ _ (Value.slice b2' k cb2) r0
      have k2 : ((v.setCell ⟨w.heap.size + 1, 0, none⟩ (Value.slice (some ⟨g, 0, none⟩) k ca2)).setCell ⟨w.heap.size + 1, 1, none⟩ (Value.slice b2' k cb2)).cell? ⟨w.heap.size + 1, 0, none⟩ = some (Value.slice (some ⟨g, 0, none⟩) k ca2) := cell_of_row _ _ 0 _ _ _ r1
      have k1 : ((v.setCell ⟨w.heap.size + 1, 0, none⟩ (Value.slice (some ⟨g, 0, none⟩) k ca2)).setCell ⟨w.heap.size + 1, 1, none⟩ (Value.slice b2' k cb2)).cell? ⟨w.heap.size + 1, 1, none⟩ = some (Value.slice b2' k cb2) := cell_of_row _ _ 1 _ _ _ r1
      have HF := Lib.hid (show _ ∧ _ ∧ _ from ⟨own_below HW.out.1 hbv, own_below HW.out.2.1 hbv, HW.out.2.2.2.1.trans (hbv.mono HW.out.2.2.2.1.size)⟩)
      clear r0 r1 hr hbv
      go_wp2_with fail
      refine bodyPost_ret (by simp [results, Try.results26, go_sem, k1, k2]; try rfl) rfl ?_
      exact ⟨_, _, _, _, rfl, own_base (own_setCell (own_setCell HF.out.1 hzz) hzz) (by omega), own_base (own_setCell (own_setCell HF.out.2.1 hzz) hzz) (by omega), (HF.out.2.2.setCell (Nat.le_succ _) _).setCell (Nat.le_succ _) _⟩
end Go.Proofs.Ytolflcjaglgphaa
