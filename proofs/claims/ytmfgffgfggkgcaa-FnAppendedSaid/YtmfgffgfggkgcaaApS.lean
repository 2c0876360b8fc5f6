/-
  AppendTo of the reference.
-/
import Derived.Test.YtmfgffgfggkgcaaWin
import Derived.BigQuiet
namespace Go.Proofs.Ytmfgffgfggkgcaa
open Go.RowKit
/-- A list is appended to a lease that is lent and has room. -/
def appOk (n : Nat) (L : List Ls) (id : Int) (m : Nat) : Bool := lentP n L id && decide ((m : Int) ≤ lsR (L.getD id.toNat lsD) - lsC (L.getD id.toNat lsD))
theorem getD_at {L : List Ls} {k : Nat} (hk : k < L.length) : L.getD ((k : Int)).toNat lsD = L[k] := by
  rw [List.getD_eq_getElem?_getD, Int.toNat_natCast, List.getElem?_eq_getElem hk]; rfl
theorem rowL_count {L : List Ls} {k : Nat} (v : Int) (hk : k < L.length) : rowL (L.set k (lsS L[k], v, lsR L[k], lsF L[k])) = (rowL L).set (k * 4 + 1) (.int .i64 v) := by
  induction L generalizing k with
  | nil => simp at hk
  | cons x L ih =>
    cases k with
    | zero => simp [rowL, lsCells, lsS, lsC, lsR, lsF]
    | succ k =>
      have hl : (lsCells x).length = 4 := rfl
      have := ih (k := k) (by simpa using hk)
      rw [List.set_cons_succ, rowL, rowL, List.getElem_cons_succ, this]
      rw [List.set_append_right _ _ (by omega), hl, show (k + 1) * 4 + 1 - 4 = k * 4 + 1 by omega]
theorem PoO.setCount {B g k cb n : Nat} {w : World} {v0 : Value} {S : List (Nat × Nat)} {L : List Ls} (h : PoO B w v0 (.slice (some ⟨g, 0, none⟩) n cb) S L) (hn : n = L.length) (hk : k < L.length) (v : Int) :
    PoO B (w.setCell ⟨g, k * 4 + 1, none⟩ (.int .i64 v)) v0 (.slice (some ⟨g, 0, none⟩) n cb) S (L.set k (lsS L[k], v, lsR L[k], lsF L[k])) := by
  subst hn
  have h1 := h.o1.own (by omega)
  refine ⟨?_, .inr ?_, h.wf, h.le0, by rw [List.length_set]; exact h.le1⟩
  · rcases h.o0 with hb | h0
    · exact .inl hb
    · exact .inr (row_setCell h0 (row_ne_type h0 h1 (by decide) rfl))
  · rw [rowL_count v hk, List.length_set]
    exact (h1.stored (k * 4 + 1) (.int .i64 v)).1
theorem PV.count {w y : World} {v0 v1 u0 : Value} {D B g k cb n : Nat} {S : List (Nat × Nat)} {L : List Ls} (h : PV w v0 v1 D B u0 (.slice (some ⟨g, 0, none⟩) n cb) S L y) (hn : n = L.length) (hk : k < L.length) (v : Int) :
    PV w v0 v1 D B u0 (.slice (some ⟨g, 0, none⟩) n cb) S (L.set k (lsS L[k], v, lsR L[k], lsF L[k])) (y.setCell ⟨g, k * 4 + 1, none⟩ (.int .i64 v)) := by
  have h1 := h.po.o1.own (by omega)
  have hBg : B ≤ g := by
    rcases row_val h1 with ⟨he, _⟩ | ⟨g', c', he, hB, _⟩
    · cases he
    · cases he; exact hB
  have hB := h.hB
  have hne : D ≠ g := fun e => row_ne_obj h1 h.row (by decide) (by rw [e]; rfl)
  exact ⟨h.arg.set (by omega) _, heap_set h.row hne _, h.po.setCount hn hk v, h.hB, h.hD⟩
/-- A sample's cell of a pool's variable. -/
theorem PV.cell {w y : World} {v0 v1 u1 : Value} {D B g n ca : Nat} {S : List (Nat × Nat)} {L : List Ls} (h : PV w v0 v1 D B (.slice (some ⟨g, 0, none⟩) n ca) u1 S L y) (hn : n = S.length) {j : Nat} (hj : j < S.length) :
    y.cell? ⟨g, j, none⟩ = some (cx S[j]) ∧ y.frozen? ⟨g, j, none⟩ = false := by
  subst hn
  have h0 := h.po.o0.own (by omega)
  refine ⟨?_, h0.frozenAt j⟩
  rw [h0.cellAt j (by omega), List.getElem?_map, List.getElem?_eq_getElem hj]; rfl
set_option maxHeartbeats 4000000 in
theorem append_s (B Bz : Nat) (v0 v1 : Value) (S : List (Nat × Nat)) (L : List Ls) (id : Int) (d : Option Addr) (m cd : Nat) (Z : List (Nat × Nat)) (w : World) (hp : PoO B w v0 v1 S L)
    (hZ : OR w Bz 37 1 (.slice d m cd) m (Z.map cx)) (hzw : ∀ p ∈ Z, p.1 < 4294967296 ∧ p.2 < 4294967296) (hm : m ≤ 1048576) :
    Calls Try.prog 28 #[.agg #[v0, v1], .int .i64 id, .slice d m cd] w (PoolR2 (appOk S.length L id m) w.heap.size w) := by
  obtain ⟨a, ca, rfl⟩ := hp.o0.open
  obtain ⟨b, cb, rfl⟩ := hp.o1.open
  have HT := Lib.hid (show _ ∧ _ ∧ _ from ⟨hp, hZ, hzw⟩)
  have hle := hp.le0
  clear hp hZ hzw
  go_enter Try.func28, Try.ntmps28
  go_upto_region 1 with fail
  have hX := PX.start w (.slice a S.length ca) (.slice b L.length cb)
  generalize (w.alloc (Obj.cells #[Value.slice a S.length ca, Value.slice b L.length cb] 25)).alloc (Obj.cells #[Value.slice none 0 0, Value.slice none 0 0] 25) = x at *
  have HX := Lib.hid hX
  obtain ⟨k0, k1, k2, k3, k4, k5⟩ := hX.cells
  clear hX
  have hd : Below x.heap.size x x.drew := (Below.refl _ _).drew
  have HD := Lib.hid hd
  clear hd
  cases hok : lentP S.length L id with
  | false =>
    have HK := Lib.hid (fun W (h : Below x.heap.size x W) => (show W.cell? ⟨w.heap.size, 0, none⟩ = some (.slice a S.length ca) ∧ W.cell? ⟨w.heap.size, 1, none⟩ = some (.slice b L.length cb) from ⟨(HX.out.keep h).cells.1, (HX.out.keep h).cells.2.1⟩))
    have HO := Lib.hid (show lentP S.length L id = false ∧ appOk S.length L id m = false from ⟨hok, by unfold appOk; rw [hok]; rfl⟩)
    clear hok
    refine wp_region_held_drew (S := fun w' => w'.cell? ⟨w.heap.size, 0, none⟩ = some (.slice a S.length ca) ∧ w'.cell? ⟨w.heap.size, 1, none⟩ = some (.slice b L.length cb)) (by kernel_rfl) (HK.out _ HD.out) (fun hHeld => ?_)
    refine wpAnyH_take (i := 0) (v := ?_) (by simp only [List.getElem?_toArray, List.getElem?_cons_zero]; rfl) (by kernel_rfl) (by kernel_rfl) (by kernel_rfl) (by intro _ _ _ h; exact h) (Or.inl ⟨by rfl, ?_⟩) (by assumption) ?_
    rotate_left
    · intro w hSw; (try dsimp only at hSw); go_simp; (try with_reducible rfl)
    simp only [Act.put, List.setIfInBounds_toArray, List.set_cons_zero, List.set_cons_succ]
    refine wpAnyH_take (i := 1) (v := ?_) (by simp only [List.getElem?_toArray, List.getElem?_cons_zero, List.getElem?_cons_succ]; rfl) (by kernel_rfl) (by kernel_rfl) (by kernel_rfl) (by intro _ _ _ h; exact h) (Or.inl ⟨by rfl, ?_⟩) (by assumption) ?_
    rotate_left
    · intro w hSw; (try dsimp only at hSw); go_simp; (try with_reducible rfl)
    simp only [Act.put, List.setIfInBounds_toArray, List.set_cons_zero, List.set_cons_succ]
    refine wpAnyH_ready (rs := [2]) (by kernel_rfl) (by simp) ?_
    refine AllReadyH.cons rfl (fun K hK => ?_) AllReadyH.nil
    go_simp
    go_wp2_with (go_at_call 29; refine (lent_s B _ _ S L _ _ (HT.out.1.below (bel_go HX.out.bel HD.out))).mono ?_; rintro e y ⟨rfl, hby⟩; rw [HO.out.1]; have HY := Lib.hid (bel_go (x := x) (W := x.drew) HD.out hby); clear hby)
    clear hHeld
    refine hK.out _ _ (HK.out _ HY.out) (fun hHeld => ?_)
    clear hK K
    refine wpAnyH_take (i := 3) (v := ?_) (by simp only [List.getElem?_toArray, List.getElem?_cons_zero, List.getElem?_cons_succ]; rfl) (by kernel_rfl) (by kernel_rfl) (by kernel_rfl) (by intro _ _ _ h; exact h) (Or.inl ⟨by rfl, ?_⟩) (by assumption) ?_
    rotate_left
    · intro w hSw; (try dsimp only at hSw); go_simp; (try with_reducible rfl)
    simp only [Act.put, List.setIfInBounds_toArray, List.set_cons_zero, List.set_cons_succ]
    refine wpAnyH_take (i := 4) (v := ?_) (by simp only [List.getElem?_toArray, List.getElem?_cons_zero, List.getElem?_cons_succ]; rfl) (by kernel_rfl) (by kernel_rfl) (by kernel_rfl) (by intro _ _ _ h; exact h) (Or.inl ⟨by rfl, ?_⟩) (by assumption) ?_
    rotate_left
    · intro w hSw; (try dsimp only at hSw); go_simp; (try with_reducible rfl)
    simp only [Act.put, List.setIfInBounds_toArray, List.set_cons_zero, List.set_cons_succ]
    refine wpAnyH_take (i := 5) (v := undef) (by simp only [List.getElem?_toArray, List.getElem?_cons_zero, List.getElem?_cons_succ]; rfl) (by kernel_rfl) (by kernel_rfl) (by kernel_rfl) (by intro _ _ _ h; exact h) (Or.inr ⟨by rfl, by rfl⟩) (by assumption) ?_
    simp only [Act.put, List.setIfInBounds_toArray, List.set_cons_zero, List.set_cons_succ]
    refine wpAnyH_take (i := 6) (v := undef) (by simp only [List.getElem?_toArray, List.getElem?_cons_zero, List.getElem?_cons_succ]; rfl) (by kernel_rfl) (by kernel_rfl) (by kernel_rfl) (by intro _ _ _ h; exact h) (Or.inr ⟨by rfl, by rfl⟩) (by assumption) ?_
    simp only [Act.put, List.setIfInBounds_toArray, List.set_cons_zero, List.set_cons_succ]
    refine wpAnyH_take (i := 7) (v := undef) (by simp only [List.getElem?_toArray, List.getElem?_cons_zero, List.getElem?_cons_succ]; rfl) (by kernel_rfl) (by kernel_rfl) (by kernel_rfl) (by intro _ _ _ h; exact h) (Or.inr ⟨by rfl, by rfl⟩) (by assumption) ?_
    simp only [Act.put, List.setIfInBounds_toArray, List.set_cons_zero, List.set_cons_succ]
    refine wpAnyH_take (i := 8) (v := undef) (by simp only [List.getElem?_toArray, List.getElem?_cons_zero, List.getElem?_cons_succ]; rfl) (by kernel_rfl) (by kernel_rfl) (by kernel_rfl) (by intro _ _ _ h; exact h) (Or.inr ⟨by rfl, by rfl⟩) (by assumption) ?_
    simp only [Act.put, List.setIfInBounds_toArray, List.set_cons_zero, List.set_cons_succ]
    refine wpAnyH_take (i := 9) (v := undef) (by simp only [List.getElem?_toArray, List.getElem?_cons_zero, List.getElem?_cons_succ]; rfl) (by kernel_rfl) (by kernel_rfl) (by kernel_rfl) (by intro _ _ _ h; exact h) (Or.inr ⟨by rfl, by rfl⟩) (by assumption) ?_
    simp only [Act.put, List.setIfInBounds_toArray, List.set_cons_zero, List.set_cons_succ]
    refine wpAnyH_take (i := 10) (v := undef) (by simp only [List.getElem?_toArray, List.getElem?_cons_zero, List.getElem?_cons_succ]; rfl) (by kernel_rfl) (by kernel_rfl) (by kernel_rfl) (by intro _ _ _ h; exact h) (Or.inr ⟨by rfl, by rfl⟩) (by assumption) ?_
    simp only [Act.put, List.setIfInBounds_toArray, List.set_cons_zero, List.set_cons_succ]
    refine wpAnyH_take (i := 11) (v := undef) (by simp only [List.getElem?_toArray, List.getElem?_cons_zero, List.getElem?_cons_succ]; rfl) (by kernel_rfl) (by kernel_rfl) (by kernel_rfl) (by intro _ _ _ h; exact h) (Or.inr ⟨by rfl, by rfl⟩) (by assumption) ?_
    simp only [Act.put, List.setIfInBounds_toArray, List.set_cons_zero, List.set_cons_succ]
    refine wpAnyH_take (i := 12) (v := undef) (by simp only [List.getElem?_toArray, List.getElem?_cons_zero, List.getElem?_cons_succ]; rfl) (by kernel_rfl) (by kernel_rfl) (by kernel_rfl) (by intro _ _ _ h; exact h) (Or.inr ⟨by rfl, by rfl⟩) (by assumption) ?_
    simp only [Act.put, List.setIfInBounds_toArray, List.set_cons_zero, List.set_cons_succ]
    refine wpAnyH_take (i := 13) (v := undef) (by simp only [List.getElem?_toArray, List.getElem?_cons_zero, List.getElem?_cons_succ]; rfl) (by kernel_rfl) (by kernel_rfl) (by kernel_rfl) (by intro _ _ _ h; exact h) (Or.inr ⟨by rfl, by rfl⟩) (by assumption) ?_
    simp only [Act.put, List.setIfInBounds_toArray, List.set_cons_zero, List.set_cons_succ]
    refine wpAnyH_take (i := 14) (v := undef) (by simp only [List.getElem?_toArray, List.getElem?_cons_zero, List.getElem?_cons_succ]; rfl) (by kernel_rfl) (by kernel_rfl) (by kernel_rfl) (by intro _ _ _ h; exact h) (Or.inr ⟨by rfl, by rfl⟩) (by assumption) ?_
    simp only [Act.put, List.setIfInBounds_toArray, List.set_cons_zero, List.set_cons_succ]
    refine wpAnyH_take (i := 15) (v := undef) (by simp only [List.getElem?_toArray, List.getElem?_cons_zero, List.getElem?_cons_succ]; rfl) (by kernel_rfl) (by kernel_rfl) (by kernel_rfl) (by intro _ _ _ h; exact h) (Or.inr ⟨by rfl, by rfl⟩) (by assumption) ?_
    simp only [Act.put, List.setIfInBounds_toArray, List.set_cons_zero, List.set_cons_succ]
    refine wpAnyH_take (i := 16) (v := undef) (by simp only [List.getElem?_toArray, List.getElem?_cons_zero, List.getElem?_cons_succ]; rfl) (by kernel_rfl) (by kernel_rfl) (by kernel_rfl) (by intro _ _ _ h; exact h) (Or.inr ⟨by rfl, by rfl⟩) (by assumption) ?_
    simp only [Act.put, List.setIfInBounds_toArray, List.set_cons_zero, List.set_cons_succ]
    refine wpAnyH_take (i := 17) (v := undef) (by simp only [List.getElem?_toArray, List.getElem?_cons_zero, List.getElem?_cons_succ]; rfl) (by kernel_rfl) (by kernel_rfl) (by kernel_rfl) (by intro _ _ _ h; exact h) (Or.inr ⟨by rfl, by rfl⟩) (by assumption) ?_
    simp only [Act.put, List.setIfInBounds_toArray, List.set_cons_zero, List.set_cons_succ]
    refine wpAnyH_take (i := 18) (v := undef) (by simp only [List.getElem?_toArray, List.getElem?_cons_zero, List.getElem?_cons_succ]; rfl) (by kernel_rfl) (by kernel_rfl) (by kernel_rfl) (by intro _ _ _ h; exact h) (Or.inr ⟨by rfl, by rfl⟩) (by assumption) ?_
    simp only [Act.put, List.setIfInBounds_toArray, List.set_cons_zero, List.set_cons_succ]
    refine wpAnyH_take (i := 19) (v := undef) (by simp only [List.getElem?_toArray, List.getElem?_cons_zero, List.getElem?_cons_succ]; rfl) (by kernel_rfl) (by kernel_rfl) (by kernel_rfl) (by intro _ _ _ h; exact h) (Or.inr ⟨by rfl, by rfl⟩) (by assumption) ?_
    simp only [Act.put, List.setIfInBounds_toArray, List.set_cons_zero, List.set_cons_succ]
    refine wpAnyH_take (i := 20) (v := undef) (by simp only [List.getElem?_toArray, List.getElem?_cons_zero, List.getElem?_cons_succ]; rfl) (by kernel_rfl) (by kernel_rfl) (by kernel_rfl) (by intro _ _ _ h; exact h) (Or.inr ⟨by rfl, by rfl⟩) (by assumption) ?_
    simp only [Act.put, List.setIfInBounds_toArray, List.set_cons_zero, List.set_cons_succ]
    refine wpAnyH_take (i := 21) (v := ?_) (by simp only [List.getElem?_toArray, List.getElem?_cons_zero, List.getElem?_cons_succ]; rfl) (by kernel_rfl) (by kernel_rfl) (by kernel_rfl) (by intro _ _ _ h; exact h) (Or.inl ⟨by rfl, ?_⟩) (by assumption) ?_
    rotate_left
    · intro w hSw; (try dsimp only at hSw); go_simp; (try with_reducible rfl)
    simp only [Act.put, List.setIfInBounds_toArray, List.set_cons_zero, List.set_cons_succ]
    refine wpAnyH_done (by kernel_rfl) ?_ _
    clear hHeld k0 k1 k2 k3 k4 k5
    have HY2 := Lib.hid (HX.out.keep HY.out)
    obtain ⟨k0, k1, k2, k3, k4, k5⟩ := HY2.out.cells
    obtain ⟨e0, e1, hbF⟩ := HY2.out.stored (.slice none 0 0) (.slice none 0 0)
    have HB := Lib.hid hbF
    clear hbF
    go_wp2_with fail
    refine bodyPost_ret (by simp [results, Try.results28, go_sem, e0, e1]; try rfl) rfl ?_
    exact ⟨[], [], none, 0, none, 0, by rw [HO.out.2]; rfl, PoO.nil _ _, HB.out⟩
  | true =>
    obtain ⟨k, hk, rfl, -, hl, hf⟩ := lentP_at hok
    have HO := Lib.hid (show lentP S.length L k = true ∧ appOk S.length L k m = decide ((m : Int) ≤ lsR L[k] - lsC L[k]) from ⟨hok, by unfold appOk; rw [hok, getD_at hk]; rfl⟩)
    clear hok
    obtain ⟨g, rfl, -⟩ := lease_cells HT.out.1.o1 hk
    have HLC := Lib.hid (fun W (h : Below w.heap.size w W) => lease_cells (HT.out.1.below h).o1 hk)
    have HK := Lib.hid (fun W (h : Below x.heap.size x W) => (show W.cell? ⟨w.heap.size, 0, none⟩ = some (.slice a S.length ca) ∧ W.cell? ⟨w.heap.size, 1, none⟩ = some (.slice (some ⟨g, 0, none⟩) L.length cb) ∧
        W.cell? ⟨g, k * 4 + 1, none⟩ = some (.int .i64 (lsC L[k])) ∧ W.cell? ⟨g, k * 4 + 2, none⟩ = some (.int .i64 (lsR L[k])) from by
      obtain ⟨g', e, -, -, h1, h2, -⟩ := HLC.out W (bel_go HX.out.bel h)
      cases e
      exact ⟨(HX.out.keep h).cells.1, (HX.out.keep h).cells.2.1, h1, h2⟩))
    obtain ⟨h1, h2, h3, h4, h5, h6⟩ := in_room hl hf
    obtain ⟨s, hs⟩ : ∃ s : Nat, lsS L[k] = s := ⟨(lsS L[k]).toNat, by omega⟩
    obtain ⟨c, hc⟩ : ∃ c : Nat, lsC L[k] = c := ⟨(lsC L[k]).toNat, by omega⟩
    obtain ⟨r, hr⟩ : ∃ r : Nat, lsR L[k] = r := ⟨(lsR L[k]).toNat, by omega⟩
    rw [hs, hc, hr] at HLC
    rw [hc, hr] at HK
    rw [hc, hr] at HO
    rw [hf] at HLC
    have hsr : s + r ≤ S.length := by omega
    have hcr : c ≤ r := by omega
    have hr1 : 1 ≤ r := by omega
    have hwr : IntKind.i64.wrap ((r : Int) - c) = (r : Int) - c := by rw [IntKind.wrap_i64]; omega
    clear hl h1 h2 h3 h4 h5 h6 hf hs hc hr
    refine wp_region_held_drew (S := fun w' => w'.cell? ⟨w.heap.size, 0, none⟩ = some (.slice a S.length ca) ∧ w'.cell? ⟨w.heap.size, 1, none⟩ = some (.slice (some ⟨g, 0, none⟩) L.length cb) ∧ w'.cell? ⟨g, k * 4 + 1, none⟩ = some (.int .i64 (c : Int)) ∧ w'.cell? ⟨g, k * 4 + 2, none⟩ = some (.int .i64 (r : Int))) (by kernel_rfl) (HK.out _ HD.out) (fun hHeld => ?_)
    refine wpAnyH_take (i := 0) (v := ?_) (by simp only [List.getElem?_toArray, List.getElem?_cons_zero]; rfl) (by kernel_rfl) (by kernel_rfl) (by kernel_rfl) (by intro _ _ _ h; exact h) (Or.inl ⟨by rfl, ?_⟩) (by assumption) ?_
    rotate_left
    · intro w hSw; (try dsimp only at hSw); go_simp; (try with_reducible rfl)
    simp only [Act.put, List.setIfInBounds_toArray, List.set_cons_zero, List.set_cons_succ]
    refine wpAnyH_take (i := 1) (v := ?_) (by simp only [List.getElem?_toArray, List.getElem?_cons_zero, List.getElem?_cons_succ]; rfl) (by kernel_rfl) (by kernel_rfl) (by kernel_rfl) (by intro _ _ _ h; exact h) (Or.inl ⟨by rfl, ?_⟩) (by assumption) ?_
    rotate_left
    · intro w hSw; (try dsimp only at hSw); go_simp; (try with_reducible rfl)
    simp only [Act.put, List.setIfInBounds_toArray, List.set_cons_zero, List.set_cons_succ]
    refine wpAnyH_ready (rs := [2]) (by kernel_rfl) (by simp) ?_
    refine AllReadyH.cons rfl (fun K hK => ?_) AllReadyH.nil
    go_simp
    go_wp2_with (go_at_call 29; refine (lent_s B _ _ S L _ _ (HT.out.1.below (bel_go HX.out.bel HD.out))).mono ?_; rintro e y ⟨rfl, hby⟩; rw [HO.out.1]; have HY := Lib.hid (bel_go (x := x) (W := x.drew) HD.out hby); clear hby)
    clear hHeld
    refine hK.out _ _ (HK.out _ HY.out) (fun hHeld => ?_)
    clear hK K
    refine wpAnyH_take (i := 3) (v := ?_) (by simp only [List.getElem?_toArray, List.getElem?_cons_zero, List.getElem?_cons_succ]; rfl) (by kernel_rfl) (by kernel_rfl) (by kernel_rfl) (by intro _ _ _ h; exact h) (Or.inl ⟨by rfl, ?_⟩) (by assumption) ?_
    rotate_left
    · intro w hSw; (try dsimp only at hSw); go_simp; (try with_reducible rfl)
    simp only [Act.put, List.setIfInBounds_toArray, List.set_cons_zero, List.set_cons_succ]
    refine wpAnyH_take (i := 4) (v := ?_) (by simp only [List.getElem?_toArray, List.getElem?_cons_zero, List.getElem?_cons_succ]; rfl) (by kernel_rfl) (by kernel_rfl) (by kernel_rfl) (by intro _ _ _ h; exact h) (Or.inl ⟨by rfl, ?_⟩) (by assumption) ?_
    rotate_left
    · intro w hSw; (try dsimp only at hSw); go_simp; (try with_reducible rfl)
    simp only [Act.put, List.setIfInBounds_toArray, List.set_cons_zero, List.set_cons_succ]
    refine wpAnyH_take (i := 5) (v := ?_) (by simp only [List.getElem?_toArray, List.getElem?_cons_zero, List.getElem?_cons_succ]; rfl) (by kernel_rfl) (by kernel_rfl) (by kernel_rfl) (by intro _ _ _ h; exact h) (Or.inl ⟨by rfl, ?_⟩) (by assumption) ?_
    rotate_left
    · intro w hSw; (try dsimp only at hSw); go_simp; (try with_reducible rfl)
    simp only [Act.put, List.setIfInBounds_toArray, List.set_cons_zero, List.set_cons_succ]
    refine wpAnyH_take (i := 6) (v := ?_) (by simp only [List.getElem?_toArray, List.getElem?_cons_zero, List.getElem?_cons_succ]; rfl) (by kernel_rfl) (by kernel_rfl) (by kernel_rfl) (by intro _ _ _ h; exact h) (Or.inl ⟨by rfl, ?_⟩) (by assumption) ?_
    rotate_left
    · intro w hSw; (try dsimp only at hSw); go_simp; (try with_reducible rfl)
    simp only [Act.put, List.setIfInBounds_toArray, List.set_cons_zero, List.set_cons_succ]
    refine wpAnyH_take (i := 7) (v := ?_) (by simp only [List.getElem?_toArray, List.getElem?_cons_zero, List.getElem?_cons_succ]; rfl) (by kernel_rfl) (by kernel_rfl) (by kernel_rfl) (by intro _ _ _ h; exact h) (Or.inl ⟨by rfl, ?_⟩) (by assumption) ?_
    rotate_left
    · intro w hSw; (try dsimp only at hSw); go_simp; (try with_reducible rfl)
    simp only [Act.put, List.setIfInBounds_toArray, List.set_cons_zero, List.set_cons_succ]
    refine wpAnyH_take (i := 8) (v := ?_) (by simp only [List.getElem?_toArray, List.getElem?_cons_zero, List.getElem?_cons_succ]; rfl) (by kernel_rfl) (by kernel_rfl) (by kernel_rfl) (by intro _ _ _ h; exact h) (Or.inl ⟨by rfl, ?_⟩) (by assumption) ?_
    rotate_left
    · intro w hSw; (try dsimp only at hSw); go_simp; (try with_reducible rfl)
    simp only [Act.put, List.setIfInBounds_toArray, List.set_cons_zero, List.set_cons_succ]
    refine wpAnyH_take (i := 9) (v := ?_) (by simp only [List.getElem?_toArray, List.getElem?_cons_zero, List.getElem?_cons_succ]; rfl) (by kernel_rfl) (by kernel_rfl) (by kernel_rfl) (by intro _ _ _ h; exact h) (Or.inl ⟨by rfl, ?_⟩) (by assumption) ?_
    rotate_left
    · intro w hSw; (try dsimp only at hSw); go_simp; (try with_reducible rfl)
    simp only [Act.put, List.setIfInBounds_toArray, List.set_cons_zero, List.set_cons_succ]
    refine wpAnyH_take (i := 10) (v := ?_) (by simp only [List.getElem?_toArray, List.getElem?_cons_zero, List.getElem?_cons_succ]; rfl) (by kernel_rfl) (by kernel_rfl) (by kernel_rfl) (by intro _ _ _ h; exact h) (Or.inl ⟨by rfl, ?_⟩) (by assumption) ?_
    rotate_left
    · intro w hSw; (try dsimp only at hSw); go_simp; (try with_reducible rfl)
    simp only [Act.put, List.setIfInBounds_toArray, List.set_cons_zero, List.set_cons_succ]
    refine wpAnyH_take (i := 11) (v := ?_) (by simp only [List.getElem?_toArray, List.getElem?_cons_zero, List.getElem?_cons_succ]; rfl) (by kernel_rfl) (by kernel_rfl) (by kernel_rfl) (by intro _ _ _ h; exact h) (Or.inl ⟨by rfl, ?_⟩) (by assumption) ?_
    rotate_left
    · intro w hSw; (try dsimp only at hSw); go_simp; (try with_reducible rfl)
    simp only [Act.put, List.setIfInBounds_toArray, List.set_cons_zero, List.set_cons_succ]
    refine wpAnyH_take (i := 12) (v := ?_) (by simp only [List.getElem?_toArray, List.getElem?_cons_zero, List.getElem?_cons_succ]; rfl) (by kernel_rfl) (by kernel_rfl) (by kernel_rfl) (by intro _ _ _ h; exact h) (Or.inl ⟨by rfl, ?_⟩) (by assumption) ?_
    rotate_left
    · intro w hSw; (try dsimp only at hSw); go_simp; (try with_reducible rfl)
    simp only [Act.put, List.setIfInBounds_toArray, List.set_cons_zero, List.set_cons_succ]
    refine wpAnyH_take (i := 13) (v := ?_) (by simp only [List.getElem?_toArray, List.getElem?_cons_zero, List.getElem?_cons_succ]; rfl) (by kernel_rfl) (by kernel_rfl) (by kernel_rfl) (by intro _ _ _ h; exact h) (Or.inl ⟨by rfl, ?_⟩) (by assumption) ?_
    rotate_left
    · intro w hSw; (try dsimp only at hSw); go_simp; (try with_reducible rfl)
    simp only [Act.put, List.setIfInBounds_toArray, List.set_cons_zero, List.set_cons_succ]
    refine wpAnyH_take (i := 14) (v := ?_) (by simp only [List.getElem?_toArray, List.getElem?_cons_zero, List.getElem?_cons_succ]; rfl) (by kernel_rfl) (by kernel_rfl) (by kernel_rfl) (by intro _ _ _ h; exact h) (Or.inl ⟨by rfl, ?_⟩) (by assumption) ?_
    rotate_left
    · intro w hSw; (try dsimp only at hSw); go_simp; (try with_reducible rfl)
    simp only [Act.put, List.setIfInBounds_toArray, List.set_cons_zero, List.set_cons_succ]
    refine wpAnyH_take (i := 15) (v := ?_) (by simp only [List.getElem?_toArray, List.getElem?_cons_zero, List.getElem?_cons_succ]; rfl) (by kernel_rfl) (by kernel_rfl) (by kernel_rfl) (by intro _ _ _ h; exact h) (Or.inl ⟨by rfl, ?_⟩) (by assumption) ?_
    rotate_left
    · intro w hSw; (try dsimp only at hSw); go_simp; (try with_reducible rfl)
    simp only [Act.put, List.setIfInBounds_toArray, List.set_cons_zero, List.set_cons_succ]
    refine wpAnyH_take (i := 16) (v := ?_) (by simp only [List.getElem?_toArray, List.getElem?_cons_zero, List.getElem?_cons_succ]; rfl) (by kernel_rfl) (by kernel_rfl) (by kernel_rfl) (by intro _ _ _ h; exact h) (Or.inl ⟨by rfl, ?_⟩) (by assumption) ?_
    rotate_left
    · intro w hSw; (try dsimp only at hSw); go_simp; (try with_reducible rfl)
    simp only [Act.put, List.setIfInBounds_toArray, List.set_cons_zero, List.set_cons_succ]
    refine wpAnyH_take (i := 17) (v := ?_) (by simp only [List.getElem?_toArray, List.getElem?_cons_zero, List.getElem?_cons_succ]; rfl) (by kernel_rfl) (by kernel_rfl) (by kernel_rfl) (by intro _ _ _ h; exact h) (Or.inl ⟨by rfl, ?_⟩) (by assumption) ?_
    rotate_left
    · intro w hSw; (try dsimp only at hSw); go_simp; (try with_reducible rfl)
    simp only [Act.put, List.setIfInBounds_toArray, List.set_cons_zero, List.set_cons_succ]
    refine wpAnyH_take (i := 18) (v := ?_) (by simp only [List.getElem?_toArray, List.getElem?_cons_zero, List.getElem?_cons_succ]; rfl) (by kernel_rfl) (by kernel_rfl) (by kernel_rfl) (by intro _ _ _ h; exact h) (Or.inl ⟨by rfl, ?_⟩) (by assumption) ?_
    rotate_left
    · intro w hSw; (try dsimp only at hSw); go_simp; (try with_reducible rfl)
    simp only [Act.put, List.setIfInBounds_toArray, List.set_cons_zero, List.set_cons_succ]
    refine wpAnyH_take (i := 19) (v := ?_) (by simp only [List.getElem?_toArray, List.getElem?_cons_zero, List.getElem?_cons_succ]; rfl) (by kernel_rfl) (by kernel_rfl) (by kernel_rfl) (by intro _ _ _ h; exact h) (Or.inl ⟨by rfl, ?_⟩) (by assumption) ?_
    rotate_left
    · intro w hSw; (try dsimp only at hSw); go_simp; (try with_reducible rfl)
    simp only [Act.put, List.setIfInBounds_toArray, List.set_cons_zero, List.set_cons_succ]
    refine wpAnyH_take (i := 20) (v := ?_) (by simp only [List.getElem?_toArray, List.getElem?_cons_zero, List.getElem?_cons_succ]; rfl) (by kernel_rfl) (by kernel_rfl) (by kernel_rfl) (by intro _ _ _ h; exact h) (Or.inl ⟨by rfl, ?_⟩) (by assumption) ?_
    rotate_left
    · intro w hSw; (try dsimp only at hSw); go_simp; (try with_reducible rfl)
    simp only [Act.put, List.setIfInBounds_toArray, List.set_cons_zero, List.set_cons_succ]
    refine wpAnyH_take (i := 21) (v := ?_) (by simp only [List.getElem?_toArray, List.getElem?_cons_zero, List.getElem?_cons_succ]; rfl) (by kernel_rfl) (by kernel_rfl) (by kernel_rfl) (by intro _ _ _ h; exact h) (Or.inl ⟨by rfl, ?_⟩) (by assumption) ?_
    rotate_left
    · intro w hSw; (try dsimp only at hSw); go_simp; (try with_reducible rfl)
    simp only [Act.put, List.setIfInBounds_toArray, List.set_cons_zero, List.set_cons_succ]
    refine wpAnyH_done (by kernel_rfl) ?_ _
    clear hHeld k0 k1 k2 k3 k4 k5
    have HY2 := Lib.hid (HX.out.keep HY.out)
    obtain ⟨k0, k1, k2, k3, k4, k5⟩ := HY2.out.cells
    by_cases hroom : (m : Int) ≤ (r : Int) - c
    · have HV0 := Lib.hid (show appOk S.length L k m = true by rw [HO.out.2, decide_eq_true hroom])
      go_wp2_with fail
      refine (copy_s B _ _ S L _ (HT.out.1.below HY2.out.bel)).mono ?_
      rintro e z1 ⟨a1, c1, b1, c2, rfl, o, hbz⟩
      have HV := Lib.hid (PV.start HY2.out hbz o)
      clear o hbz k0 k1 k2 k3 k4 k5
      obtain ⟨g2, rfl, -⟩ := lease_cells HV.out.po.o1 hk
      obtain ⟨g1, rfl, -⟩ := samp_cell (i := 0) HV.out.po.o0 (by omega)
      obtain ⟨k0, k1, -, -⟩ := HV.out.cells
      go_upto_region 4 with fail
      generalize z1.alloc (.cells #[.slice (some ⟨g1, 0, none⟩) S.length c1, .slice (some ⟨g2, 0, none⟩) L.length c2] 25) = y2 at *
      generalize z1.heap.size = D at *
      obtain ⟨k2, k3, -⟩ := HV.out.arg.cells
      obtain ⟨g', e, -, l0, l1, l2, l3⟩ := HLC.out y2 HV.out.arg.bel
      cases e
      go_upto_region 5 with fail
      have HV3 := Lib.hid (show _ ∧ _ from ⟨HV.out.keep (bel_one y2 (.cells #[.int .i64 (s : Int), .int .i64 (c : Int), .int .i64 (r : Int), .bool false] 52)), heap_new y2 (.cells #[.int .i64 (s : Int), .int .i64 (c : Int), .int .i64 (r : Int), .bool false] 52)⟩)
      clear k0 k1 k2 k3 l0 l1 l2 l3 HV
      generalize y2.alloc (.cells #[.int .i64 (s : Int), .int .i64 (c : Int), .int .i64 (r : Int), .bool false] 52) = y3 at *
      generalize y2.heap.size = E at *
      have HZl := Lib.hid (show Z.length = m by simpa using HT.out.2.1.len)
      go_wp2_with fail
      go_loopw [44] (fun t wr => ∃ (i : Nat) (S' : List (Nat × Nat)), i ≤ m ∧ t = .int .i64 i ∧ S.length = S'.length ∧ PV w (.slice a S.length ca) (.slice (some ⟨g, 0, none⟩) L.length cb) D y.heap.size (.slice (some ⟨g1, 0, none⟩) S.length c1) (.slice (some ⟨g2, 0, none⟩) L.length c2) S' L wr ∧
          wr.heap[E]? = some (.cells #[.int .i64 (s : Int), .int .i64 (c : Int), .int .i64 (r : Int), .bool false] 52 (0, 0))) (fun t _ => m - (intOf t).toNat)
      case atStart => exact ⟨0, S, by omega, rfl, rfl, HV3.out.1, HV3.out.2⟩
      case round =>
        clear HV3
        obtain ⟨i, S', hi, rfl, hSS, hV, hE⟩ := hrel
        have HSS := Lib.hid hSS
        have HV := Lib.hid hV
        have HE := Lib.hid hE
        obtain ⟨k0, k1, -, -⟩ := hV.cells
        have q0 := cell_of_row _ _ 0 _ _ _ hE
        have q1 := cell_of_row _ _ 1 _ _ _ hE
        simp only [List.getElem?_toArray] at q0 q1
        clear hV hE hSS
        by_cases hlt : (i : Int) < (m : Int)
        · have him : i < m := by omega
          have hiZ : i < Z.length := by rw [HZl.out]; exact him
          obtain ⟨q, rfl, -, hcz⟩ := samp_cell (HT.out.2.1.below HV.out.arg.bel) hiZ
          have hj : s + c + i < S'.length := by rw [← HSS.out]; omega
          have hjn : s + c + i < S.length := by omega
          obtain ⟨t0, t1⟩ := HV.out.cell HSS.out hj
          have HN := Lib.hid (HV.out.samp hj HSS.out Z[i] (HT.out.2.2 _ (List.getElem_mem hiZ)))
          have HNe := Lib.hid (fun v => heap_set (j := s + c + i) HE.out (fun e => row_ne_obj (HV.out.po.o0.own (by omega)) HE.out (by decide) (by rw [e]; rfl)) v)
          have HZi := Lib.hid (show cx Z[i] = .complex .f32 Z[i].1 Z[i].2 from rfl)
          go_wp2_with fail
          go_roundw
          case rel => exact ⟨i + 1, S'.set (s + c + i) Z[i], by omega, by go_num, by rw [List.length_set]; exact HSS.out, HN.out, HNe.out _⟩
          case measure => simp [intOf]; omega
        · obtain rfl : i = m := by omega
          obtain ⟨g', e, -, -, l1, -⟩ := lease_cells HV.out.po.o1 hk
          cases e
          have hfz := (HV.out.po.o1.own (by omega)).frozenAt (k * 4 + 1)
          have HN := Lib.hid (HV.out.count rfl hk ((c : Int) + i))
          obtain ⟨m0, m1, -, -⟩ := HN.out.cells
          obtain ⟨-, -, p0, p1, p2, p3⟩ := HN.out.arg.cells
          obtain ⟨e0, e1, hbF⟩ := HN.out.arg.stored (.slice (some ⟨g1, 0, none⟩) S.length c1) (.slice (some ⟨g2, 0, none⟩) L.length c2)
          have HF := Lib.hid hbF
          clear hbF
          go_wp2_with fail
          refine bodyPost_ret (by simp [results, Try.results28, go_sem, e0, e1]; try rfl) rfl ?_
          have ho := HN.out.out (.slice (some ⟨g1, 0, none⟩) S.length c1) (.slice (some ⟨g2, 0, none⟩) L.length c2)
          refine ⟨S', L.set k (lsS L[k], (c : Int) + i, lsR L[k], lsF L[k]), some ⟨g1, 0, none⟩, c1, some ⟨g2, 0, none⟩, c2, ?_, ?_, HF.out⟩
          · rw [HV0.out, List.length_set, ← HSS.out]
          · rw [List.length_set, ← HSS.out]; exact ho
    · have HV0 := Lib.hid (show appOk S.length L k m = false by rw [HO.out.2, decide_eq_false hroom])
      obtain ⟨e0, e1, hbF⟩ := HY2.out.stored (.slice none 0 0) (.slice none 0 0)
      have HB := Lib.hid hbF
      clear hbF
      go_wp2_with fail
      refine bodyPost_ret (by simp [results, Try.results28, go_sem, e0, e1]; try rfl) rfl ?_
      exact ⟨[], [], none, 0, none, 0, by rw [HV0.out]; rfl, PoO.nil _ _, HB.out⟩
end Go.Proofs.Ytmfgffgfggkgcaa
