/-
  MakeTable: a valid table that is drawn.
-/
import Derived.Test.YtolflcjaglgphaaMergeS
import Derived.Test.YtolflcjaglgphaaGridL
import Derived.Test.YtolflcjaglgphaaMake
import Derived.Deep.DeepCutAuto
import Derived.Test.YtolflcjaglgphaaDecL
namespace Go.Proofs.Ytolflcjaglgphaa
open Go.RowKit
def PointAns (c : Nat) (w : World) (e : Ending) (w' : World) : Prop := ∃ p : Nat × Nat, e = .returned (.complex .f32 p.1 p.2) ∧ (p.1 < 4294967296 ∧ p.2 < 4294967296) ∧ CurAt w' c ∧ Kp c w w'
theorem l2Small_any (c : Nat) (w : World) (hc : CurAt w c) : Calls Try.prog 42 #[.pointer (some ⟨c, 0, none⟩)] w (PointAns c w) := by
  have HC := Lib.hid hc
  clear hc
  go_enter Try.func42, Try.ntmps42
  go_wp2_with fail
  refine (l01Below_any c _ _ HC.out (by decide) (by decide)).mono ?_
  rintro e w1 ⟨x, rfl, hx, hc1, hk1⟩
  have R := Lib.hid (show _ ∧ _ from ⟨hc1, hk1⟩)
  clear hc1 hk1
  go_wp2_with fail
  refine (l01Below_any c _ _ R.out.1 (by decide) (by decide)).mono ?_
  rintro e w2 ⟨y, rfl, hy, hc2, hk2⟩
  have R2 := Lib.hid (show _ ∧ _ from ⟨hc2, R.out.2.trans hk2⟩)
  clear hc2 hk2
  go_wp2_with fail
  go_ret
  exact ⟨(_, _), rfl, ⟨wf_lt (floatOfInt_wf ..), wf_lt (floatOfInt_wf ..)⟩, R2.out.1, R2.out.2⟩
theorem l2Any_any (c : Nat) (w : World) (hc : CurAt w c) : Calls Try.prog 57 #[.pointer (some ⟨c, 0, none⟩)] w (PointAns c w) := by
  have HC := Lib.hid hc
  clear hc
  go_enter Try.func57, Try.ntmps57
  go_wp2_with fail
  refine (l1Any_any c _ HC.out).mono ?_
  rintro e w1 ⟨x, rfl, hx, hc1, hk1⟩
  have R := Lib.hid (show _ ∧ _ from ⟨hc1, hk1⟩)
  clear hc1 hk1
  go_wp2_with fail
  refine (l1Any_any c _ R.out.1).mono ?_
  rintro e w2 ⟨y, rfl, hy, hc2, hk2⟩
  have R2 := Lib.hid (show _ ∧ _ from ⟨hc2, R.out.2.trans hk2⟩)
  clear hc2 hk2
  go_wp2_with fail
  go_ret
  exact ⟨(_, _), rfl, ⟨hx, hy⟩, R2.out.1, R2.out.2⟩
theorem TabO.kp {B c : Nat} {w w' : World} {v0 v1 : Value} {ps : List (Nat × Nat)} {ls : List Int} (h : TabO B w v0 v1 ps ls) (hk : Kp c w w') (hc : c < B) : TabO B w' v0 v1 ps ls := by
  have hne : ∀ {v : Value} {e n : Nat} {xs : List Value}, w.ownsRow B e 1 v n xs → v.ownBlock = none ∨ v.ownBlock ≠ some c := fun {v e n xs} ho => by
    cases hv : v.ownBlock with
    | none => exact .inl rfl
    | some g => right; intro he; cases he; have := (ho.lt c hv).1; omega
  exact ⟨h.o0.kept (grown_kp hk) (hne h.o0), h.o1.kept (grown_kp hk) (hne h.o1), h.wf, h.le⟩
/-- The drawn table so far, in its variable. -/
structure TS (w : World) (c : Nat) (u0 u1 : Value) (cur : Tab) (y : World) : Prop where
  cr : CurAt y c
  kp : Kp c w y
  res : y.heap[w.heap.size]? = some (.cells #[.slice none 0 0, .slice none 0 0] 25 (0, 0))
  var : y.heap[w.heap.size + 1]? = some (.cells #[u0, u1] 25 (0, 0))
  tab : TabO (w.heap.size + 2) y u0 u1 cur.1 cur.2
  hc : c < w.heap.size
  ok : isTab cur.1 cur.2.length = true
section
variable {w : World} {c : Nat} {u0 u1 : Value} {cur : Tab} {y y' : World}
theorem TS.keep (h : TS w c u0 u1 cur y) (hb : Below y.heap.size y y') : TS w c u0 u1 cur y' :=
  ⟨curAt_below h.cr hb, h.kp.trans (Kp.of_below hb), (hb.block _ (Array.getElem?_eq_some_iff.1 h.res).1).trans h.res, (hb.block _ (Array.getElem?_eq_some_iff.1 h.var).1).trans h.var, h.tab.below hb, h.hc, h.ok⟩
theorem TS.draw (h : TS w c u0 u1 cur y) (hc : CurAt y' c) (hk : Kp c y y') : TS w c u0 u1 cur y' := by
  have h1 := h.hc
  exact ⟨hc, h.kp.trans hk, (hk.block _ (Array.getElem?_eq_some_iff.1 h.res).1 (by omega)).trans h.res, (hk.block _ (Array.getElem?_eq_some_iff.1 h.var).1 (by omega)).trans h.var, h.tab.kp hk (by omega), h.hc, h.ok⟩
theorem TS.cells (h : TS w c u0 u1 cur y) : y.cell? ⟨w.heap.size + 1, 0, none⟩ = some u0 ∧ y.cell? ⟨w.heap.size + 1, 1, none⟩ = some u1 ∧ y.frozen? ⟨w.heap.size + 1, 0, none⟩ = false ∧ y.frozen? ⟨w.heap.size + 1, 1, none⟩ = false ∧
    y.cell? ⟨w.heap.size, 0, none⟩ = some (.slice none 0 0) ∧ y.cell? ⟨w.heap.size, 1, none⟩ = some (.slice none 0 0) ∧ y.frozen? ⟨w.heap.size, 0, none⟩ = false ∧ y.frozen? ⟨w.heap.size, 1, none⟩ = false :=
  ⟨cell_of_row _ _ 0 _ _ _ h.var, cell_of_row _ _ 1 _ _ _ h.var, frozen_of_row _ _ 0 _ _ h.var, frozen_of_row _ _ 1 _ _ h.var, cell_of_row _ _ 0 _ _ _ h.res, cell_of_row _ _ 1 _ _ _ h.res, frozen_of_row _ _ 0 _ _ h.res, frozen_of_row _ _ 1 _ _ h.res⟩
theorem TS.store {B : Nat} {u0' u1' : Value} {cur' : Tab} (h : TS w c u0 u1 cur y) (ht : TabO B y u0' u1' cur'.1 cur'.2) (hB : w.heap.size + 2 ≤ B) (ok : isTab cur'.1 cur'.2.length = true) :
    TS w c u0' u1' cur' ((y.setCell ⟨w.heap.size + 1, 0, none⟩ u0').setCell ⟨w.heap.size + 1, 1, none⟩ u1') := by
  have hc := h.hc
  have q0 := heap_setCell_same _ _ 0 _ _ u0' h.var
  have q1 := heap_setCell_same _ _ 1 _ _ u1' q0
  have hne : ∀ k, k ≠ w.heap.size + 1 → ((y.setCell ⟨w.heap.size + 1, 0, none⟩ u0').setCell ⟨w.heap.size + 1, 1, none⟩ u1').heap[k]? = y.heap[k]? := fun k hk => (heap_setCell_other _ _ _ _ hk).trans (heap_setCell_other _ _ _ _ hk)
  refine ⟨curAt_keep h.cr (fun k hk => hne k (by omega)), ?_, (hne _ (by omega)).trans h.res, q1, ⟨own_base (own_set (own_set ht.o0 h.var (by decide)) q0 (by decide)) hB, own_base (own_set (own_set ht.o1 h.var (by decide)) q0 (by decide)) hB, ht.wf, ht.le⟩, h.hc, ok⟩
  have hk := h.kp
  exact ⟨hk.os, hk.tape, hk.output, by simpa using hk.size, fun k hkw hkc => (hne k (by omega)).trans (hk.block k hkw hkc)⟩
end
theorem TS.start {w : World} {c : Nat} (hc : CurAt w c) : TS w c (.slice none 0 0) (.slice none 0 0) ([], []) ((w.alloc (.cells #[.slice none 0 0, .slice none 0 0] 25)).alloc (.cells #[.slice none 0 0, .slice none 0 0] 25)) := by
  refine ⟨curAt_below hc (bel_al (bel_one _ _) _), Kp.of_below (bel_al (bel_one _ _) _), ?_, ?_, TabO.nil _ _, curAt_lt hc, by decide⟩
  · show ((w.heap.push _).push _)[w.heap.size]? = _
    rw [Array.getElem?_push, if_neg (by simp), Array.getElem?_push, if_pos rfl]
  · show ((w.heap.push _).push _)[w.heap.size + 1]? = _
    rw [Array.getElem?_push, if_pos (by simp)]
theorem grid_sp (s p : Nat) (h1 : 1 ≤ s) (h8 : s ≤ 8) (hp : s * s = p) (w : World) : Calls Try.prog 7 #[.int .i64 (s : Int)] w (GridAns s p w) := by
  subst hp
  refine (grid_spec (s : Int) w).mono fun e w' h => ?_
  rcases h with ⟨_, _, v0, v1, h2, h3, h4, h5⟩ | ⟨hn, _⟩
  · rw [Int.toNat_natCast] at h3 h4
    exact ⟨v0, v1, h2, h3, by rw [gl_lbs h1 h8] at h4; exact h4, h5⟩
  · omega
theorem putP_tab {ps : List (Nat × Nat)} {ls : List Int} {z : Nat × Nat} {l : Int} {t : Tab} (h : putP ps ls z l = some t) : isTab t.1 t.2.length = true := by
  unfold putP at h
  split at h
  · rename_i h1
    split at h
    · cases h; rw [List.length_set]; exact h1
    · split at h
      · rename_i h2; cases h; exact h2
      · cases h
  · cases h
abbrev nilRow : Obj := .cells #[.slice none 0 0, .slice none 0 0] 25 (0, 0)
section
variable {w : World} {c : Nat} {u0 u1 : Value} {cur : Tab} {y w1 w2 : World} {v0 v1 : Value} {t : Tab} {N : Nat}
/-- Behind the call: the new table lies in a block of its own. -/
structure NT (w : World) (c : Nat) (u0 u1 : Value) (cur : Tab) (W : World) (N : Nat) (v0 v1 : Value) (t : Tab) : Prop where
  ts : TS w c u0 u1 cur W
  tab : TabO (w.heap.size + 2) W v0 v1 t.1 t.2
  row : W.heap[N]? = some (.cells #[v0, v1] 25 (0, 0))
theorem nt_last (h : TS w c u0 u1 cur w2) (ht : TabO (w.heap.size + 2) w2 v0 v1 t.1 t.2) : NT w c u0 u1 cur (w2.alloc (.cells #[v0, v1] 25)) w2.heap.size v0 v1 t :=
  ⟨h.keep (bel_one _ _), ht.below (bel_one _ _), by show (w2.heap.push _)[w2.heap.size]? = _; rw [Array.getElem?_push, if_pos rfl]⟩
theorem nt_set (h : TS w c u0 u1 cur w2) (ht : TabO (w.heap.size + 2) w2 v0 v1 t.1 t.2) (hN : w.heap.size + 1 < N) (hr : w2.heap[N]? = some nilRow) : NT w c u0 u1 cur ((w2.setCell ⟨N, 0, none⟩ v0).setCell ⟨N, 1, none⟩ v1) N v0 v1 t := by
  have q0 := heap_setCell_same _ _ 0 _ _ v0 hr
  have q1 := heap_setCell_same _ _ 1 _ _ v1 q0
  have hc := h.hc
  have hne : ∀ k, k ≠ N → ((w2.setCell ⟨N, 0, none⟩ v0).setCell ⟨N, 1, none⟩ v1).heap[k]? = w2.heap[k]? := fun k hk => (heap_setCell_other _ _ _ _ hk).trans (heap_setCell_other _ _ _ _ hk)
  have hset : ∀ {B : Nat} {a0 a1 : Value} {ps : List (Nat × Nat)} {ls : List Int}, TabO B w2 a0 a1 ps ls → TabO B ((w2.setCell ⟨N, 0, none⟩ v0).setCell ⟨N, 1, none⟩ v1) a0 a1 ps ls := fun {B a0 a1 ps ls} h =>
    ⟨own_set (own_set h.o0 hr (by decide)) q0 (by decide), own_set (own_set h.o1 hr (by decide)) q0 (by decide), h.wf, h.le⟩
  have hk := h.kp
  exact ⟨⟨curAt_keep h.cr (fun k hk => hne k (by omega)), ⟨hk.os, hk.tape, hk.output, by simpa using hk.size, fun k hkw hkc => (hne k (by omega)).trans (hk.block k hkw hkc)⟩, (hne _ (by omega)).trans h.res, (hne _ (by omega)).trans h.var, hset h.tab, h.hc, h.ok⟩, hset ht, q1⟩
theorem TS.lt (h : TS w c u0 u1 cur y) : w.heap.size + 1 < y.heap.size := (Array.getElem?_eq_some_iff.1 h.var).1
theorem put_plain (h : TS w c u0 u1 cur w1) (hb : Below w1.heap.size w1 w2) (ht : TabO w1.heap.size w2 v0 v1 t.1 t.2) : TS w c u0 u1 cur w2 ∧ TabO (w.heap.size + 2) w2 v0 v1 t.1 t.2 ∧ True := ⟨h.keep hb, ht.base h.lt, trivial⟩
theorem put_row (h : TS w c u0 u1 cur w1) (hr : w1.heap[N]? = some nilRow) (hb : Below w1.heap.size w1 w2) (ht : TabO w1.heap.size w2 v0 v1 t.1 t.2) : TS w c u0 u1 cur w2 ∧ TabO (w.heap.size + 2) w2 v0 v1 t.1 t.2 ∧ w2.heap[N]? = some nilRow :=
  ⟨h.keep hb, ht.base h.lt, (hb.block _ (Array.getElem?_eq_some_iff.1 hr).1).trans hr⟩
theorem put_alloc (h : TS w c u0 u1 cur w1) (hb : Below (w1.alloc (.cells #[.slice none 0 0, .slice none 0 0] 25)).heap.size (w1.alloc (.cells #[.slice none 0 0, .slice none 0 0] 25)) w2) (ht : TabO (w1.alloc (.cells #[.slice none 0 0, .slice none 0 0] 25)).heap.size w2 v0 v1 t.1 t.2) :
    TS w c u0 u1 cur w2 ∧ TabO (w.heap.size + 2) w2 v0 v1 t.1 t.2 ∧ w2.heap[w1.heap.size]? = some nilRow := by
  have h1 := h.keep (bel_one w1 (.cells #[.slice none 0 0, .slice none 0 0] 25))
  refine ⟨h1.keep hb, ht.base h1.lt, (hb.block _ (by simp)).trans ?_⟩
  show (w1.heap.push _)[w1.heap.size]? = _
  rw [Array.getElem?_push, if_pos rfl]
theorem draw_row (h : TS w c u0 u1 cur y) (hc : CurAt w1 c) (hk : Kp c (y.alloc (.cells #[.slice none 0 0, .slice none 0 0] 25)).drew w1) : TS w c u0 u1 cur w1 ∧ w1.heap[y.heap.size]? = some nilRow := by
  have h1 := (h.keep (bel_a1 y (.cells #[.slice none 0 0, .slice none 0 0] 25))).draw hc hk
  have hl := h.lt
  have hcc := h.hc
  refine ⟨h1, (hk.block _ ?_ (by omega)).trans ?_⟩
  · show _ < (y.alloc _).heap.size
    simp
  · show (y.heap.push _)[y.heap.size]? = _
    rw [Array.getElem?_push, if_pos rfl]
theorem draw_plain (h : TS w c u0 u1 cur y) (hc : CurAt w1 c) (hk : Kp c y.drew w1) : TS w c u0 u1 cur w1 ∧ True := ⟨(h.keep ((Below.refl _ _).drew)).draw hc hk, trivial⟩
end
/-- A valid table that was drawn. -/
def DrawnTab (c : Nat) (w : World) (e : Ending) (w' : World) : Prop :=
  ∃ (cur : Tab) (a : Option Addr) (ca : Nat) (b : Option Addr) (cb : Nat), e = .returned (.agg #[.slice a cur.1.length ca, .slice b cur.1.length cb]) ∧ TabO w.heap.size w' (.slice a cur.1.length ca) (.slice b cur.1.length cb) cur.1 cur.2 ∧ isTab cur.1 cur.2.length = true ∧ CurAt w' c ∧ Kp c w w'
set_option maxHeartbeats 4000000 in
theorem l2Table_any (c : Nat) (w : World) (hc : CurAt w c) : Calls Try.prog 40 #[.pointer (some ⟨c, 0, none⟩)] w (DrawnTab c w) := by
  have HC := Lib.hid (TS.start hc)
  clear hc
  go_enter Try.func40, Try.ntmps40
  go_wp2_with fail
  generalize (w.alloc (.cells #[.slice none 0 0, .slice none 0 0] 25)).alloc (.cells #[.slice none 0 0, .slice none 0 0] 25) = x at *
  refine (l01Once_any c _ _ HC.out.cr (by decide) (by decide)).mono ?_
  rintro e w1 ⟨b1, rfl, hc1, hk1⟩
  have H1 := Lib.hid (HC.out.draw hc1 hk1)
  clear hc1 hk1 HC
  go_upto_if 10 with fail
  go_cut [11] (fun _ wx => ∃ (cur : Tab) (a : Option Addr) (ca : Nat) (b : Option Addr) (cb : Nat), TS w c (.slice a cur.1.length ca) (.slice b cur.1.length cb) cur wx)
  case first =>
    cases b1 with
    | false =>
      go_wp2_with fail
      go_meet
      exact ⟨([], []), none, 0, none, 0, H1.out⟩
    | true =>
      go_wp2_with fail
      refine (l01Below_any c _ _ H1.out.cr (by decide) (by decide)).mono ?_
      rintro e w2 ⟨x, rfl, hx, hc2, hk2⟩
      have H2 := Lib.hid (H1.out.draw hc2 hk2)
      clear hc2 hk2 H1
      obtain ⟨s, hs, h1, h8⟩ : ∃ s : Nat, (1 + (x : Int)) = (s : Int) ∧ 1 ≤ s ∧ s ≤ 8 := ⟨1 + x, by omega, by omega, by omega⟩
      go_wp2_with fail
      have hp64 : (gps s).length ≤ 64 := by rw [gps_len]; exact Nat.mul_le_mul h8 h8
      refine (grid_sp s (gps s).length h1 h8 (gps_len s).symm _).mono ?_
      rintro e w3 ⟨v0, v1, rfl, o0, o1, hb3⟩
      obtain ⟨a0, q0, rfl⟩ := owns_form o0
      obtain ⟨a1, q1, rfl⟩ := owns_form o1
      have H3 := Lib.hid (show _ ∧ _ from ⟨H2.out.keep hb3, (show TabO w2.heap.size w3 (.slice a0 (gps s).length q0) (.slice a1 (gps s).length q1) (gps s) (lbs s) from ⟨o0, o1, words_gps h1 h8, by omega⟩)⟩)
      clear o0 o1 hb3
      obtain ⟨n0, n1, n2, n3, -⟩ := H3.out.1.cells
      have H4 := Lib.hid (H3.out.1.store (cur' := (gps s, lbs s)) H3.out.2 (by have := (Array.getElem?_eq_some_iff.1 H2.out.var).1; omega) (tab_gps h1 h8))
      clear hs hx
      go_wp2_with fail
      go_meet
      exact ⟨(gps s, lbs s), a0, q0, a1, q1, H4.out⟩
  case rest =>
    obtain ⟨cur, a, ca, b, cb, hts⟩ := hcut
    have H2 := Lib.hid hts
    clear hts H1
    go_wp2_with fail
    refine (l01Below_any c _ _ H2.out.cr (by decide) (by decide)).mono ?_
    rintro e w3 ⟨k0, rfl, hk0, hc3, hk3⟩
    have H3 := Lib.hid (H2.out.draw hc3 hk3)
    clear hc3 hk3 H2
    go_wp2_with fail
    go_loopw [4] (fun kv wr => ∃ (k : Nat) (cur : Tab) (a : Option Addr) (ca : Nat) (b : Option Addr) (cb : Nat), k ≤ 7 ∧ kv = .int .i64 k ∧ TS w c (.slice a cur.1.length ca) (.slice b cur.1.length cb) cur wr) (fun kv _ => (intOf kv).toNat)
    case atStart => exact ⟨k0, cur, a, ca, b, cb, by omega, rfl, H3.out⟩
    case round =>
      clear H3 hk0
      obtain ⟨k, cur, a, ca, b, cb, hk, rfl, hts⟩ := hrel
      have H3 := Lib.hid hts
      clear hts
      by_cases hlt : (0 : Int) < (k : Int)
      · go_wp2_with fail
        refine (l2Small_any c _ H3.out.cr).mono ?_
        rintro e w4 ⟨z, rfl, hz, hc4, hk4⟩
        have H4 := Lib.hid (show _ ∧ _ from ⟨H3.out.draw hc4 hk4, hz⟩)
        clear hc4 hk4 H3 hz
        go_wp2_with fail
        refine (l01Once_any c _ _ H4.out.1.cr (by decide) (by decide)).mono ?_
        rintro e w5 ⟨b5, rfl, hc5, hk5⟩
        have H5 := Lib.hid (show _ ∧ _ from ⟨H4.out.1.draw hc5 hk5, H4.out.2⟩)
        clear hc5 hk5 H4
        go_upto_if 27 with fail
        go_cut [5, 28] (fun zv _ wx => ∃ z : Nat × Nat, zv = .complex .f32 z.1 z.2 ∧ (z.1 < 4294967296 ∧ z.2 < 4294967296) ∧ TS w c (.slice a cur.1.length ca) (.slice b cur.1.length cb) cur wx)
        case first =>
          cases b5 with
          | false =>
            go_wp2_with fail
            go_meet
            exact ⟨z, rfl, H5.out.2, H5.out.1⟩
          | true =>
            go_wp2_with fail
            refine (l2Any_any c _ H5.out.1.cr).mono ?_
            rintro e w6 ⟨z6, rfl, hz6, hc6, hk6⟩
            have H6 := Lib.hid (show _ ∧ _ from ⟨H5.out.1.draw hc6 hk6, hz6⟩)
            clear hc6 hk6 H5 hz6
            go_wp2_with fail
            go_meet
            exact ⟨z6, rfl, H6.out.2, H6.out.1⟩
        case rest =>
          obtain ⟨zz, hzv, hzz, hts⟩ := hcut
          subst hzv
          have H6 := Lib.hid (show _ ∧ _ from ⟨hts, hzz⟩)
          clear hts hzz H5
          go_wp2_with fail
          have HK := Lib.hid (fun (W : World) (h : TS w c (.slice a cur.1.length ca) (.slice b cur.1.length cb) cur W) => (show W.cell? ⟨w.heap.size + 1, 0, none⟩ = some (.slice a cur.1.length ca) ∧ W.cell? ⟨w.heap.size + 1, 1, none⟩ = some (.slice b cur.1.length cb) from ⟨h.cells.1, h.cells.2.1⟩))
          have HPUT := Lib.hid (fun (l : Int) (W : World) (h : TabO (w.heap.size + 2) W (.slice a cur.1.length ca) (.slice b cur.1.length cb) cur.1 cur.2) =>
            (put_s (w.heap.size + 2) (.slice a cur.1.length ca) (.slice b cur.1.length cb) cur.1 cur.2 zz l W h H6.out.2).mono (R' := fun e w' => ∃ r, putP cur.1 cur.2 zz l = r ∧ TabRet r W e w') (fun e w' hh => ⟨_, rfl, hh⟩))
          go_region_held_law (fun w' => w'.cell? ⟨w.heap.size + 1, 0, none⟩ = some (.slice a cur.1.length ca) ∧ w'.cell? ⟨w.heap.size + 1, 1, none⟩ = some (.slice b cur.1.length cb))
            (first
              | exact HK.out _ (H6.out.1.keep ((Below.refl _ _).drew))
              | exact HK.out _ (H6.out.1.keep (bel_a1 _ _))
              | exact HK.out _ T1.out.1
              | exact HK.out _ (T1.out.1.keep (bel_one _ _))
              | exact HK.out _ T2.out.1
              | exact HK.out _ (T2.out.1.keep (bel_one _ _))
              | exact HK.out _ (nt_set (t := r.getD ([], [])) T2.out.1 T2.out.2.1 (TS.lt H6.out.1) T2.out.2.2).ts
              | exact HK.out _ (nt_set (t := r.getD ([], [])) T2.out.1 T2.out.2.1 (TS.lt T1.out.1) T2.out.2.2).ts)
            (first
              | (go_at_call 56; refine (l01Below_any c 6 _ ?_ (by decide) (by decide)).mono ?_; (first | exact (H6.out.1.keep ((Below.refl _ _).drew)).cr | exact (H6.out.1.keep (bel_a1 _ _)).cr); rintro e w1 ⟨x, rfl, hx, hc1, hk1⟩; (first | have T1 := Lib.hid (draw_plain H6.out.1 hc1 hk1) | have T1 := Lib.hid (draw_row H6.out.1 hc1 hk1)); clear hc1 hk1)
              | (go_at_call 17; refine (HPUT.out _ _ ?_).mono ?_; (first | exact T1.out.1.tab | exact (T1.out.1.keep (bel_one _ _)).tab); rintro e w2 ⟨r, hr, pa, pca, pb, pcb, rfl, htab, hb1⟩;
                  (first | have T2 := Lib.hid (put_row (t := r.getD ([], [])) T1.out.1 T1.out.2 hb1 htab) | have T2 := Lib.hid (put_alloc (t := r.getD ([], [])) T1.out.1 hb1 htab) | have T2 := Lib.hid (put_plain (t := r.getD ([], [])) T1.out.1 hb1 htab)); have HRR := Lib.hid hr; clear htab hb1 hr;
                  (first | (have n0 := cell_of_row _ _ 0 _ _ _ T2.out.2.2; have n1 := cell_of_row _ _ 1 _ _ _ T2.out.2.2; have n2 := frozen_of_row _ _ 0 _ _ T2.out.2.2; have n3 := frozen_of_row _ _ 1 _ _ T2.out.2.2) | skip)))
          all_goals
            try clear n0 n1 n2 n3
            cases r with
            | none =>
              first
                | (have HX := Lib.hid (nt_last (v0 := .slice pa 0 pca) (v1 := .slice pb 0 pcb) (t := ([], [])) T2.out.1 T2.out.2.1); clear T2 T1 HPUT HK hx; go_wp2_with fail; go_roundw; (case rel => exact ⟨k - 1, cur, a, ca, b, cb, by omega, by go_num, HX.out.ts⟩); (case measure => simp [intOf]; omega))
                | (have HX := Lib.hid (nt_set (v0 := .slice pa 0 pca) (v1 := .slice pb 0 pcb) (t := ([], [])) T2.out.1 T2.out.2.1 (TS.lt T1.out.1) T2.out.2.2); clear T2 T1 HPUT HK hx; go_wp2_with fail; go_roundw; (case rel => exact ⟨k - 1, cur, a, ca, b, cb, by omega, by go_num, HX.out.ts⟩); (case measure => simp [intOf]; omega))
                | (have HX := Lib.hid (nt_set (v0 := .slice pa 0 pca) (v1 := .slice pb 0 pcb) (t := ([], [])) T2.out.1 T2.out.2.1 (TS.lt H6.out.1) T2.out.2.2); clear T2 T1 HPUT HK hx; go_wp2_with fail; go_roundw; (case rel => exact ⟨k - 1, cur, a, ca, b, cb, by omega, by go_num, HX.out.ts⟩); (case measure => simp [intOf]; omega))
            | some c' =>
              first
                | (have HX := Lib.hid (nt_last (v0 := .slice pa c'.1.length pca) (v1 := .slice pb c'.1.length pcb) (t := c') T2.out.1 T2.out.2.1); clear T2 T1 HPUT HK hx; have x0 := cell_of_row _ _ 0 _ _ _ HX.out.row; have x1 := cell_of_row _ _ 1 _ _ _ HX.out.row; obtain ⟨n0, n1, n2, n3, -⟩ := HX.out.ts.cells; have H3 := Lib.hid (HX.out.ts.store HX.out.tab (Nat.le_refl _) (putP_tab HRR.out)); go_wp2_with fail; go_roundw; (case rel => exact ⟨k - 1, c', pa, pca, pb, pcb, by omega, by go_num, H3.out⟩); (case measure => simp [intOf]; omega))
                | (have HX := Lib.hid (nt_set (v0 := .slice pa c'.1.length pca) (v1 := .slice pb c'.1.length pcb) (t := c') T2.out.1 T2.out.2.1 (TS.lt T1.out.1) T2.out.2.2); clear T2 T1 HPUT HK hx; have x0 := cell_of_row _ _ 0 _ _ _ HX.out.row; have x1 := cell_of_row _ _ 1 _ _ _ HX.out.row; obtain ⟨n0, n1, n2, n3, -⟩ := HX.out.ts.cells; have H3 := Lib.hid (HX.out.ts.store HX.out.tab (Nat.le_refl _) (putP_tab HRR.out)); go_wp2_with fail; go_roundw; (case rel => exact ⟨k - 1, c', pa, pca, pb, pcb, by omega, by go_num, H3.out⟩); (case measure => simp [intOf]; omega))
                | (have HX := Lib.hid (nt_set (v0 := .slice pa c'.1.length pca) (v1 := .slice pb c'.1.length pcb) (t := c') T2.out.1 T2.out.2.1 (TS.lt H6.out.1) T2.out.2.2); clear T2 T1 HPUT HK hx; have x0 := cell_of_row _ _ 0 _ _ _ HX.out.row; have x1 := cell_of_row _ _ 1 _ _ _ HX.out.row; obtain ⟨n0, n1, n2, n3, -⟩ := HX.out.ts.cells; have H3 := Lib.hid (HX.out.ts.store HX.out.tab (Nat.le_refl _) (putP_tab HRR.out)); go_wp2_with fail; go_roundw; (case rel => exact ⟨k - 1, c', pa, pca, pb, pcb, by omega, by go_num, H3.out⟩); (case measure => simp [intOf]; omega))
      · obtain ⟨n0, n1, n2, n3, n4, n5, n6, n7⟩ := H3.out.cells
        have r0 := heap_setCell_same _ _ 0 _ _ (Value.slice a cur.1.length ca) H3.out.res
        have r1 := heap_setCell_same _ _ 1 _ _ (Value.slice b cur.1.length cb) r0
        have e0 : ((wr.setCell ⟨w.heap.size, 0, none⟩ (Value.slice a cur.1.length ca)).setCell ⟨w.heap.size, 1, none⟩ (Value.slice b cur.1.length cb)).cell? ⟨w.heap.size, 0, none⟩ = some (Value.slice a cur.1.length ca) := cell_of_row _ _ 0 _ _ _ r1
        have e1 : ((wr.setCell ⟨w.heap.size, 0, none⟩ (Value.slice a cur.1.length ca)).setCell ⟨w.heap.size, 1, none⟩ (Value.slice b cur.1.length cb)).cell? ⟨w.heap.size, 1, none⟩ = some (Value.slice b cur.1.length cb) := cell_of_row _ _ 1 _ _ _ r1
        clear r0 r1
        go_wp2_with fail
        refine bodyPost_ret (by simp [results, Try.results40, go_sem, e0, e1]; try rfl) rfl ?_
        have hcw := H3.out.hc
        have hk := H3.out.kp
        have hne : ∀ j, j ≠ w.heap.size → ((wr.setCell ⟨w.heap.size, 0, none⟩ (Value.slice a cur.1.length ca)).setCell ⟨w.heap.size, 1, none⟩ (Value.slice b cur.1.length cb)).heap[j]? = wr.heap[j]? := fun j hj => (heap_setCell_other _ _ _ _ hj).trans (heap_setCell_other _ _ _ _ hj)
        exact ⟨cur, a, ca, b, cb, rfl, ((H3.out.tab.setCell (by omega)).setCell (by omega)).base (by omega), H3.out.ok, curAt_keep H3.out.cr (fun j hj => hne j (by omega)),
          ⟨hk.os, hk.tape, hk.output, by simpa using hk.size, fun j hjw hjc => (hne j (by omega)).trans (hk.block j hjw hjc)⟩⟩
def TableAns (w : World) (e : Ending) (w' : World) : Prop :=
  ∃ (cur : Tab) (a : Option Addr) (ca : Nat) (b : Option Addr) (cb : Nat), e = .returned (.agg #[.slice a cur.1.length ca, .slice b cur.1.length cb]) ∧ TabO w.heap.size w' (.slice a cur.1.length ca) (.slice b cur.1.length cb) cur.1 cur.2 ∧ isTab cur.1 cur.2.length = true ∧ Below w.heap.size w w'
set_option maxHeartbeats 1000000 in
theorem makeTable_any (a : Option Addr) (len cap : Nat) (xs : List Value) (w : World) (hx : CodeAt w a len xs) : Calls Try.prog 12 #[.slice a len cap] w (TableAns w) := by
  have H := Lib.hid hx
  clear hx
  go_enter Try.func12, Try.ntmps12
  go_wp2_with fail
  have hal : Below w.heap.size w (w.alloc (.cells #[.slice none 0 0, .slice none 0 0] 25)) := bel_one _ _
  have hrow : (w.alloc (.cells #[.slice none 0 0, .slice none 0 0] 25)).heap[w.heap.size]? = some nilRow := by
    show (w.heap.push _)[w.heap.size]? = _
    rw [Array.getElem?_push, if_pos rfl]
  have H0 := Lib.hid (show _ ∧ _ ∧ _ from ⟨H.out.below hal, hal, hrow⟩)
  clear hal hrow
  generalize w.alloc (.cells #[.slice none 0 0, .slice none 0 0] 25) = x at *
  refine (l01New_any _ _ _ _ _ H0.out.1).mono ?_
  rintro e w1 ⟨c, rfl, hc, hc1, hb1⟩
  have hlx : w.heap.size < x.heap.size := (Array.getElem?_eq_some_iff.1 H0.out.2.2).1
  have R := Lib.hid (show _ ∧ _ ∧ _ from ⟨hc1, hb1, (hb1.block _ hlx).trans H0.out.2.2⟩)
  clear hc1 hb1
  go_wp2_with fail
  refine (l2Table_any c _ R.out.1).mono ?_
  rintro e w2 ⟨cur, a1, ca, b1, cb, rfl, htab, hok, hc2, hk2⟩
  have hlw : w.heap.size < w1.heap.size := (Array.getElem?_eq_some_iff.1 R.out.2.2).1
  have hr2 : w2.heap[w.heap.size]? = some nilRow := (hk2.block _ hlw (by omega)).trans R.out.2.2
  have hb2 : Below w.heap.size w w2 := (H0.out.2.1.trans (R.out.2.1.mono H0.out.2.1.size)).trans (hk2.below (by omega) (by omega))
  have R2 := Lib.hid (show _ ∧ _ ∧ _ ∧ _ from ⟨htab, hok, hr2, hb2⟩)
  have n4 := cell_of_row _ _ 0 _ _ _ hr2
  have n5 := cell_of_row _ _ 1 _ _ _ hr2
  have n6 := frozen_of_row _ _ 0 _ _ hr2
  have n7 := frozen_of_row _ _ 1 _ _ hr2
  have r0 := heap_setCell_same _ _ 0 _ _ (Value.slice a1 cur.1.length ca) hr2
  have r1 := heap_setCell_same _ _ 1 _ _ (Value.slice b1 cur.1.length cb) r0
  have e0 : ((w2.setCell ⟨w.heap.size, 0, none⟩ (Value.slice a1 cur.1.length ca)).setCell ⟨w.heap.size, 1, none⟩ (Value.slice b1 cur.1.length cb)).cell? ⟨w.heap.size, 0, none⟩ = some (Value.slice a1 cur.1.length ca) := cell_of_row _ _ 0 _ _ _ r1
  have e1 : ((w2.setCell ⟨w.heap.size, 0, none⟩ (Value.slice a1 cur.1.length ca)).setCell ⟨w.heap.size, 1, none⟩ (Value.slice b1 cur.1.length cb)).cell? ⟨w.heap.size, 1, none⟩ = some (Value.slice b1 cur.1.length cb) := cell_of_row _ _ 1 _ _ _ r1
  clear r0 r1 hr2 hb2 htab hok hc2 hk2
  go_wp2_with fail
  refine bodyPost_ret (by simp [results, Try.results12, go_sem, e0, e1]; try rfl) rfl ?_
  exact ⟨cur, a1, ca, b1, cb, rfl, ((R2.out.1.setCell hlw).setCell hlw).base (by omega), R2.out.2.1, (R2.out.2.2.2.setCell (Nat.le_refl _) _).setCell (Nat.le_refl _) _⟩
end Go.Proofs.Ytolflcjaglgphaa
