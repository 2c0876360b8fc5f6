/-
  AppendTo of the program.
-/
import Derived.Test.YtmfgffgfggkgcaaStC
import Derived.Test.YtmfgffgfggkgcaaWnI
namespace Go.Proofs.Ytmfgffgfggkgcaa
open Go.RowKit
def AppAns (S : List (Nat × Nat)) (L : List Ls) (id : Int) (Z : List (Nat × Nat)) (w : World) (e : Ending) (w' : World) : Prop :=
  (appOk S.length L id Z.length = true ∧ ∃ (a : Option Addr) (ca : Nat) (b : Option Addr) (cb : Nat), e = .returned (.tuple #[.agg #[.slice a S.length ca, .slice b L.length cb], .bool true]) ∧ PoO w.heap.size w' (.slice a S.length ca) (.slice b L.length cb) (appS S L id Z) (moreL L id Z.length) ∧ Below w.heap.size w w') ∨
  (appOk S.length L id Z.length = false ∧ e = .returned (.tuple #[.agg #[.slice none 0 0, .slice none 0 0], .bool false]) ∧ Below w.heap.size w w')
theorem src_at {w : World} {ad : Option Addr} {m : Nat} {xs : List Value} (h : SrcAt w 1 ad m xs) (h0 : 0 < xs.length) : ∃ b, ad = some b ∧ ∀ j v, xs[j]? = some v → w.cell? (b.add j) = some v := by
  have hl := h.1
  rcases h.2 with hz | ⟨b, off, rfl, hh⟩
  · omega
  · refine ⟨_, rfl, fun j v hv => ?_⟩
    have hj : j < xs.length := (List.getElem?_eq_some_iff.1 hv).1
    rw [show (⟨b, off, none⟩ : Addr).add j = ⟨b, off + j, none⟩ by unfold Addr.add; split <;> simp_all, hh j hj, hv]
theorem one_cx {Z : List (Nat × Nat)} : ∀ v ∈ Z.map cx, v.oneCell' = true := by
  intro v hv
  obtain ⟨p, -, rfl⟩ := List.mem_map.1 hv
  rfl
set_option maxHeartbeats 4000000 in
theorem append_i (B Bz : Nat) (v0 v1 : Value) (S : List (Nat × Nat)) (L : List Ls) (id : Int) (d : Option Addr) (m cd : Nat) (Z : List (Nat × Nat)) (w : World) (hp : PoO B w v0 v1 S L)
    (hZ : OR w Bz 37 1 (.slice d m cd) m (Z.map cx)) (hzw : ∀ p ∈ Z, p.1 < 4294967296 ∧ p.2 < 4294967296) (hm : m ≤ 1048576) :
    Calls Try.prog 15 #[.agg #[v0, v1], .int .i64 id, .slice d m cd] w (AppAns S L id Z w) := by
  obtain ⟨a, ca, rfl⟩ := hp.o0.open
  obtain ⟨b, cb, rfl⟩ := hp.o1.open
  have hZl : Z.length = m := by simpa using hZ.len
  unfold AppAns
  rw [hZl]
  have HT := Lib.hid (show _ ∧ _ ∧ _ ∧ _ from ⟨hp, hZ, hzw, hZl⟩)
  have hle := hp.le0
  clear hp hZ hzw hZl
  go_enter Try.func15, Try.ntmps15
  go_upto_region 1 with fail
  have hX := PX.start w (.slice a S.length ca) (.slice b L.length cb)
  generalize (w.alloc (Obj.cells #[Value.slice a S.length ca, Value.slice b L.length cb] 25)).alloc (Obj.cells #[Value.slice none 0 0, Value.slice none 0 0] 25) = x at *
  have HX := Lib.hid hX
  obtain ⟨k0, k1, k2, k3, k4, k5⟩ := hX.cells
  clear hX
  have hd : Below x.heap.size x x.drew := (Below.refl _ _).drew
  have HD := Lib.hid hd
  clear hd
  have HK := Lib.hid (fun W (h : Below x.heap.size x W) => (show W.cell? ⟨w.heap.size, 0, none⟩ = some (.slice a S.length ca) ∧ W.cell? ⟨w.heap.size, 1, none⟩ = some (.slice b L.length cb) from ⟨(HX.out.keep h).cells.1, (HX.out.keep h).cells.2.1⟩))
  cases hv : isPoolP S.length L with
  | false =>
    have HO := Lib.hid (show isPoolP S.length L = false ∧ appOk S.length L id m = false from ⟨hv, by unfold appOk; rw [lentP_of, hv]; rfl⟩)
    clear hv
    refine wp_region_held_drew (S := fun w' => w'.cell? ⟨w.heap.size, 0, none⟩ = some (.slice a S.length ca) ∧ w'.cell? ⟨w.heap.size, 1, none⟩ = some (.slice b L.length cb)) (by kernel_rfl) (HK.out _ HD.out) (fun hHeld => ?_)
    refine wpAnyH_take (i := 0) (v := ?_) (by simp only [List.getElem?_toArray, List.getElem?_cons_zero]; rfl) (by kernel_rfl) (by kernel_rfl) (by kernel_rfl) (by intro _ _ _ h; exact h) (Or.inl ⟨by rfl, ?_⟩) (by assumption) ?_
    rotate_left
    · intro w hSw; (try dsimp only at hSw); go_simp; (try with_reducible rfl)
    simp only [Act.put, List.setIfInBounds_toArray, List.set_cons_zero, List.set_cons_succ]
    refine wpAnyH_ready (rs := [1]) (by kernel_rfl) (by simp) ?_
    refine AllReadyH.cons rfl (fun K hK => ?_) AllReadyH.nil
    go_simp
    go_wp2_with (go_at_call 30; refine (isPool_i B _ _ S L _ (HT.out.1.below (bel_go HX.out.bel HD.out))).mono ?_; rintro e y ⟨rfl, hby⟩; rw [HO.out.1]; have HY := Lib.hid (bel_go (x := x) (W := x.drew) HD.out hby); clear hby)
    clear hHeld
    refine hK.out _ _ (HK.out _ HY.out) (fun hHeld => ?_)
    clear hK K
    refine wpAnyH_take (i := 2) (v := ?_) (by simp only [List.getElem?_toArray, List.getElem?_cons_zero, List.getElem?_cons_succ]; rfl) (by kernel_rfl) (by kernel_rfl) (by kernel_rfl) (by intro _ _ _ h; exact h) (Or.inl ⟨by rfl, ?_⟩) (by assumption) ?_
    rotate_left
    · intro w hSw; (try dsimp only at hSw); go_simp; (try with_reducible rfl)
    simp only [Act.put, List.setIfInBounds_toArray, List.set_cons_zero, List.set_cons_succ]
    refine wpAnyH_take (i := 3) (v := ?_) (by simp only [List.getElem?_toArray, List.getElem?_cons_zero, List.getElem?_cons_succ]; rfl) (by kernel_rfl) (by kernel_rfl) (by kernel_rfl) (by intro _ _ _ h; exact h) (Or.inl ⟨by rfl, ?_⟩) (by assumption) ?_
    rotate_left
    · intro w hSw; (try dsimp only at hSw); go_simp; (try with_reducible rfl)
    simp only [Act.put, List.setIfInBounds_toArray, List.set_cons_zero, List.set_cons_succ]
    refine wpAnyH_take (i := 4) (v := undef) (by simp only [List.getElem?_toArray, List.getElem?_cons_zero, List.getElem?_cons_succ]; rfl) (by kernel_rfl) (by kernel_rfl) (by kernel_rfl) (by intro _ _ _ h; exact h) (Or.inr ⟨by rfl, by rfl⟩) (by assumption) ?_
    simp only [Act.put, List.setIfInBounds_toArray, List.set_cons_zero, List.set_cons_succ]
    refine wpAnyH_take (i := 5) (v := undef) (by simp only [List.getElem?_toArray, List.getElem?_cons_zero, List.getElem?_cons_succ]; rfl) (by kernel_rfl) (by kernel_rfl) (by kernel_rfl) (by intro _ _ _ h; exact h) (Or.inr ⟨by rfl, by rfl⟩) (by assumption) ?_
    simp only [Act.put, List.setIfInBounds_toArray, List.set_cons_zero, List.set_cons_succ]
    refine wpAnyH_take (i := 6) (v := undef) (by simp only [List.getElem?_toArray, List.getElem?_cons_zero, List.getElem?_cons_succ]; rfl) (by kernel_rfl) (by kernel_rfl) (by kernel_rfl) (by intro _ _ _ h; exact h) (Or.inr ⟨by rfl, by rfl⟩) (by assumption) ?_
    simp only [Act.put, List.setIfInBounds_toArray, List.set_cons_zero, List.set_cons_succ]
    refine wpAnyH_take (i := 7) (v := undef) (by simp only [List.getElem?_toArray, List.getElem?_cons_zero, List.getElem?_cons_succ]; rfl) (by kernel_rfl) (by kernel_rfl) (by kernel_rfl) (by intro _ _ _ h; exact h) (Or.inr ⟨by rfl, by rfl⟩) (by assumption) ?_
    simp only [Act.put, List.setIfInBounds_toArray, List.set_cons_zero, List.set_cons_succ]
    refine wpAnyH_take (i := 8) (v := ?_) (by simp only [List.getElem?_toArray, List.getElem?_cons_zero, List.getElem?_cons_succ]; rfl) (by kernel_rfl) (by kernel_rfl) (by kernel_rfl) (by intro _ _ _ h; exact h) (Or.inl ⟨by rfl, ?_⟩) (by assumption) ?_
    rotate_left
    · intro w hSw; (try dsimp only at hSw); go_simp; (try with_reducible rfl)
    simp only [Act.put, List.setIfInBounds_toArray, List.set_cons_zero, List.set_cons_succ]
    refine wpAnyH_take (i := 9) (v := ?_) (by simp only [List.getElem?_toArray, List.getElem?_cons_zero, List.getElem?_cons_succ]; rfl) (by kernel_rfl) (by kernel_rfl) (by kernel_rfl) (by intro _ _ _ h; exact h) (Or.inl ⟨by rfl, ?_⟩) (by assumption) ?_
    rotate_left
    · intro w hSw; (try dsimp only at hSw); go_simp; (try with_reducible rfl)
    simp only [Act.put, List.setIfInBounds_toArray, List.set_cons_zero, List.set_cons_succ]
    refine wpAnyH_take (i := 10) (v := undef) (by simp only [List.getElem?_toArray, List.getElem?_cons_zero, List.getElem?_cons_succ]; rfl) (by kernel_rfl) (by kernel_rfl) (by kernel_rfl) (by intro _ _ _ h; exact h) (Or.inr ⟨by rfl, by rfl⟩) (by assumption) ?_
    simp only [Act.put, List.setIfInBounds_toArray, List.set_cons_zero, List.set_cons_succ]
    refine wpAnyH_take (i := 11) (v := undef) (by simp only [List.getElem?_toArray, List.getElem?_cons_zero, List.getElem?_cons_succ]; rfl) (by kernel_rfl) (by kernel_rfl) (by kernel_rfl) (by intro _ _ _ h; exact h) (Or.inr ⟨by rfl, by rfl⟩) (by assumption) ?_
    simp only [Act.put, List.setIfInBounds_toArray, List.set_cons_zero, List.set_cons_succ]
    refine wpAnyH_take (i := 12) (v := undef) (by simp only [List.getElem?_toArray, List.getElem?_cons_zero, List.getElem?_cons_succ]; rfl) (by kernel_rfl) (by kernel_rfl) (by kernel_rfl) (by intro _ _ _ h; exact h) (Or.inr ⟨by rfl, by rfl⟩) (by assumption) ?_
    simp only [Act.put, List.setIfInBounds_toArray, List.set_cons_zero, List.set_cons_succ]
    refine wpAnyH_take (i := 13) (v := undef) (by simp only [List.getElem?_toArray, List.getElem?_cons_zero, List.getElem?_cons_succ]; rfl) (by kernel_rfl) (by kernel_rfl) (by kernel_rfl) (by intro _ _ _ h; exact h) (Or.inr ⟨by rfl, by rfl⟩) (by assumption) ?_
    simp only [Act.put, List.setIfInBounds_toArray, List.set_cons_zero, List.set_cons_succ]
    refine wpAnyH_take (i := 14) (v := undef) (by simp only [List.getElem?_toArray, List.getElem?_cons_zero, List.getElem?_cons_succ]; rfl) (by kernel_rfl) (by kernel_rfl) (by kernel_rfl) (by intro _ _ _ h; exact h) (Or.inr ⟨by rfl, by rfl⟩) (by assumption) ?_
    simp only [Act.put, List.setIfInBounds_toArray, List.set_cons_zero, List.set_cons_succ]
    refine wpAnyH_take (i := 15) (v := undef) (by simp only [List.getElem?_toArray, List.getElem?_cons_zero, List.getElem?_cons_succ]; rfl) (by kernel_rfl) (by kernel_rfl) (by kernel_rfl) (by intro _ _ _ h; exact h) (Or.inr ⟨by rfl, by rfl⟩) (by assumption) ?_
    simp only [Act.put, List.setIfInBounds_toArray, List.set_cons_zero, List.set_cons_succ]
    refine wpAnyH_take (i := 16) (v := undef) (by simp only [List.getElem?_toArray, List.getElem?_cons_zero, List.getElem?_cons_succ]; rfl) (by kernel_rfl) (by kernel_rfl) (by kernel_rfl) (by intro _ _ _ h; exact h) (Or.inr ⟨by rfl, by rfl⟩) (by assumption) ?_
    simp only [Act.put, List.setIfInBounds_toArray, List.set_cons_zero, List.set_cons_succ]
    refine wpAnyH_take (i := 17) (v := undef) (by simp only [List.getElem?_toArray, List.getElem?_cons_zero, List.getElem?_cons_succ]; rfl) (by kernel_rfl) (by kernel_rfl) (by kernel_rfl) (by intro _ _ _ h; exact h) (Or.inr ⟨by rfl, by rfl⟩) (by assumption) ?_
    simp only [Act.put, List.setIfInBounds_toArray, List.set_cons_zero, List.set_cons_succ]
    refine wpAnyH_take (i := 18) (v := undef) (by simp only [List.getElem?_toArray, List.getElem?_cons_zero, List.getElem?_cons_succ]; rfl) (by kernel_rfl) (by kernel_rfl) (by kernel_rfl) (by intro _ _ _ h; exact h) (Or.inr ⟨by rfl, by rfl⟩) (by assumption) ?_
    simp only [Act.put, List.setIfInBounds_toArray, List.set_cons_zero, List.set_cons_succ]
    refine wpAnyH_take (i := 19) (v := undef) (by simp only [List.getElem?_toArray, List.getElem?_cons_zero, List.getElem?_cons_succ]; rfl) (by kernel_rfl) (by kernel_rfl) (by kernel_rfl) (by intro _ _ _ h; exact h) (Or.inr ⟨by rfl, by rfl⟩) (by assumption) ?_
    simp only [Act.put, List.setIfInBounds_toArray, List.set_cons_zero, List.set_cons_succ]
    refine wpAnyH_take (i := 20) (v := undef) (by simp only [List.getElem?_toArray, List.getElem?_cons_zero, List.getElem?_cons_succ]; rfl) (by kernel_rfl) (by kernel_rfl) (by kernel_rfl) (by intro _ _ _ h; exact h) (Or.inr ⟨by rfl, by rfl⟩) (by assumption) ?_
    simp only [Act.put, List.setIfInBounds_toArray, List.set_cons_zero, List.set_cons_succ]
    refine wpAnyH_take (i := 21) (v := undef) (by simp only [List.getElem?_toArray, List.getElem?_cons_zero, List.getElem?_cons_succ]; rfl) (by kernel_rfl) (by kernel_rfl) (by kernel_rfl) (by intro _ _ _ h; exact h) (Or.inr ⟨by rfl, by rfl⟩) (by assumption) ?_
    simp only [Act.put, List.setIfInBounds_toArray, List.set_cons_zero, List.set_cons_succ]
    refine wpAnyH_take (i := 22) (v := undef) (by simp only [List.getElem?_toArray, List.getElem?_cons_zero, List.getElem?_cons_succ]; rfl) (by kernel_rfl) (by kernel_rfl) (by kernel_rfl) (by intro _ _ _ h; exact h) (Or.inr ⟨by rfl, by rfl⟩) (by assumption) ?_
    simp only [Act.put, List.setIfInBounds_toArray, List.set_cons_zero, List.set_cons_succ]
    refine wpAnyH_take (i := 23) (v := undef) (by simp only [List.getElem?_toArray, List.getElem?_cons_zero, List.getElem?_cons_succ]; rfl) (by kernel_rfl) (by kernel_rfl) (by kernel_rfl) (by intro _ _ _ h; exact h) (Or.inr ⟨by rfl, by rfl⟩) (by assumption) ?_
    simp only [Act.put, List.setIfInBounds_toArray, List.set_cons_zero, List.set_cons_succ]
    refine wpAnyH_take (i := 24) (v := undef) (by simp only [List.getElem?_toArray, List.getElem?_cons_zero, List.getElem?_cons_succ]; rfl) (by kernel_rfl) (by kernel_rfl) (by kernel_rfl) (by intro _ _ _ h; exact h) (Or.inr ⟨by rfl, by rfl⟩) (by assumption) ?_
    simp only [Act.put, List.setIfInBounds_toArray, List.set_cons_zero, List.set_cons_succ]
    refine wpAnyH_take (i := 25) (v := undef) (by simp only [List.getElem?_toArray, List.getElem?_cons_zero, List.getElem?_cons_succ]; rfl) (by kernel_rfl) (by kernel_rfl) (by kernel_rfl) (by intro _ _ _ h; exact h) (Or.inr ⟨by rfl, by rfl⟩) (by assumption) ?_
    simp only [Act.put, List.setIfInBounds_toArray, List.set_cons_zero, List.set_cons_succ]
    refine wpAnyH_take (i := 26) (v := ?_) (by simp only [List.getElem?_toArray, List.getElem?_cons_zero, List.getElem?_cons_succ]; rfl) (by kernel_rfl) (by kernel_rfl) (by kernel_rfl) (by intro _ _ _ h; exact h) (Or.inl ⟨by rfl, ?_⟩) (by assumption) ?_
    rotate_left
    · intro w hSw; (try dsimp only at hSw); go_simp; (try with_reducible rfl)
    simp only [Act.put, List.setIfInBounds_toArray, List.set_cons_zero, List.set_cons_succ]
    refine wpAnyH_done (by kernel_rfl) ?_ _
    clear hHeld k0 k1 k2 k3 k4 k5
    have HY2 := Lib.hid (HX.out.keep HY.out)
    obtain ⟨k0, k1, k2, k3, k4, k5⟩ := HY2.out.cells
    obtain ⟨e0, e1, hbF⟩ := HY2.out.stored (.slice none 0 0) (.slice none 0 0)
    have HB := Lib.hid hbF
    clear hbF
    go_wp2_with fail
    refine bodyPost_ret (by simp [results, Try.results15, go_sem, e0, e1]; try rfl) rfl ?_
    exact .inr ⟨HO.out.2, rfl, HB.out⟩
  | true =>
    have HV := Lib.hid hv
    have hle2 : lentP S.length L id = lentI L id := by rw [lentP_of, hv, Bool.true_and]
    clear hv
    cases hok : lentI L id with
    | false =>
      have HO := Lib.hid (show lentI L id = false ∧ appOk S.length L id m = false from ⟨hok, by unfold appOk; rw [hle2, hok]; rfl⟩)
      clear hok hle2
      refine wp_region_held_drew (S := fun w' => w'.cell? ⟨w.heap.size, 0, none⟩ = some (.slice a S.length ca) ∧ w'.cell? ⟨w.heap.size, 1, none⟩ = some (.slice b L.length cb)) (by kernel_rfl) (HK.out _ HD.out) (fun hHeld => ?_)
      refine wpAnyH_take (i := 0) (v := ?_) (by simp only [List.getElem?_toArray, List.getElem?_cons_zero]; rfl) (by kernel_rfl) (by kernel_rfl) (by kernel_rfl) (by intro _ _ _ h; exact h) (Or.inl ⟨by rfl, ?_⟩) (by assumption) ?_
      rotate_left
      · intro w hSw; (try dsimp only at hSw); go_simp; (try with_reducible rfl)
      simp only [Act.put, List.setIfInBounds_toArray, List.set_cons_zero, List.set_cons_succ]
      refine wpAnyH_ready (rs := [1]) (by kernel_rfl) (by simp) ?_
      refine AllReadyH.cons rfl (fun K hK => ?_) AllReadyH.nil
      go_simp
      go_wp2_with (go_at_call 30; refine (isPool_i B _ _ S L _ (HT.out.1.below (bel_go HX.out.bel HD.out))).mono ?_; rintro e y1 ⟨rfl, hby⟩; rw [HV.out]; have HY1 := Lib.hid (bel_go (x := x) (W := x.drew) HD.out hby); clear hby)
      clear hHeld
      refine hK.out _ _ (HK.out _ HY1.out) (fun hHeld => ?_)
      clear hK K
      refine wpAnyH_take (i := 2) (v := ?_) (by simp only [List.getElem?_toArray, List.getElem?_cons_zero, List.getElem?_cons_succ]; rfl) (by kernel_rfl) (by kernel_rfl) (by kernel_rfl) (by intro _ _ _ h; exact h) (Or.inl ⟨by rfl, ?_⟩) (by assumption) ?_
      rotate_left
      · intro w hSw; (try dsimp only at hSw); go_simp; (try with_reducible rfl)
      simp only [Act.put, List.setIfInBounds_toArray, List.set_cons_zero, List.set_cons_succ]
      refine wpAnyH_take (i := 3) (v := ?_) (by simp only [List.getElem?_toArray, List.getElem?_cons_zero, List.getElem?_cons_succ]; rfl) (by kernel_rfl) (by kernel_rfl) (by kernel_rfl) (by intro _ _ _ h; exact h) (Or.inl ⟨by rfl, ?_⟩) (by assumption) ?_
      rotate_left
      · intro w hSw; (try dsimp only at hSw); go_simp; (try with_reducible rfl)
      simp only [Act.put, List.setIfInBounds_toArray, List.set_cons_zero, List.set_cons_succ]
      refine wpAnyH_take (i := 4) (v := ?_) (by simp only [List.getElem?_toArray, List.getElem?_cons_zero, List.getElem?_cons_succ]; rfl) (by kernel_rfl) (by kernel_rfl) (by kernel_rfl) (by intro _ _ _ h; exact h) (Or.inl ⟨by rfl, ?_⟩) (by assumption) ?_
      rotate_left
      · intro w hSw; (try dsimp only at hSw); go_simp; (try with_reducible rfl)
      simp only [Act.put, List.setIfInBounds_toArray, List.set_cons_zero, List.set_cons_succ]
      refine wpAnyH_take (i := 5) (v := ?_) (by simp only [List.getElem?_toArray, List.getElem?_cons_zero, List.getElem?_cons_succ]; rfl) (by kernel_rfl) (by kernel_rfl) (by kernel_rfl) (by intro _ _ _ h; exact h) (Or.inl ⟨by rfl, ?_⟩) (by assumption) ?_
      rotate_left
      · intro w hSw; (try dsimp only at hSw); go_simp; (try with_reducible rfl)
      simp only [Act.put, List.setIfInBounds_toArray, List.set_cons_zero, List.set_cons_succ]
      refine wpAnyH_ready (rs := [6]) (by kernel_rfl) (by simp) ?_
      refine AllReadyH.cons rfl (fun K hK => ?_) AllReadyH.nil
      go_simp
      go_wp2_with (go_at_call 31; refine (isLent_i B _ _ S L _ _ (HT.out.1.below (bel_go HX.out.bel HY1.out))).mono ?_; rintro e y ⟨rfl, hby⟩; rw [HO.out.1]; have HY := Lib.hid (bel_go (x := x) HY1.out hby); clear hby)
      clear hHeld
      refine hK.out _ _ (HK.out _ HY.out) (fun hHeld => ?_)
      clear hK K
      refine wpAnyH_take (i := 7) (v := ?_) (by simp only [List.getElem?_toArray, List.getElem?_cons_zero, List.getElem?_cons_succ]; rfl) (by kernel_rfl) (by kernel_rfl) (by kernel_rfl) (by intro _ _ _ h; exact h) (Or.inl ⟨by rfl, ?_⟩) (by assumption) ?_
      rotate_left
      · intro w hSw; (try dsimp only at hSw); go_simp; (try with_reducible rfl)
      simp only [Act.put, List.setIfInBounds_toArray, List.set_cons_zero, List.set_cons_succ]
      refine wpAnyH_take (i := 8) (v := ?_) (by simp only [List.getElem?_toArray, List.getElem?_cons_zero, List.getElem?_cons_succ]; rfl) (by kernel_rfl) (by kernel_rfl) (by kernel_rfl) (by intro _ _ _ h; exact h) (Or.inl ⟨by rfl, ?_⟩) (by assumption) ?_
      rotate_left
      · intro w hSw; (try dsimp only at hSw); go_simp; (try with_reducible rfl)
      simp only [Act.put, List.setIfInBounds_toArray, List.set_cons_zero, List.set_cons_succ]
      refine wpAnyH_take (i := 9) (v := ?_) (by simp only [List.getElem?_toArray, List.getElem?_cons_zero, List.getElem?_cons_succ]; rfl) (by kernel_rfl) (by kernel_rfl) (by kernel_rfl) (by intro _ _ _ h; exact h) (Or.inl ⟨by rfl, ?_⟩) (by assumption) ?_
      rotate_left
      · intro w hSw; (try dsimp only at hSw); go_simp; (try with_reducible rfl)
      simp only [Act.put, List.setIfInBounds_toArray, List.set_cons_zero, List.set_cons_succ]
      refine wpAnyH_take (i := 10) (v := undef) (by simp only [List.getElem?_toArray, List.getElem?_cons_zero, List.getElem?_cons_succ]; rfl) (by kernel_rfl) (by kernel_rfl) (by kernel_rfl) (by intro _ _ _ h; exact h) (Or.inr ⟨by rfl, by rfl⟩) (by assumption) ?_
      simp only [Act.put, List.setIfInBounds_toArray, List.set_cons_zero, List.set_cons_succ]
      refine wpAnyH_take (i := 11) (v := undef) (by simp only [List.getElem?_toArray, List.getElem?_cons_zero, List.getElem?_cons_succ]; rfl) (by kernel_rfl) (by kernel_rfl) (by kernel_rfl) (by intro _ _ _ h; exact h) (Or.inr ⟨by rfl, by rfl⟩) (by assumption) ?_
      simp only [Act.put, List.setIfInBounds_toArray, List.set_cons_zero, List.set_cons_succ]
      refine wpAnyH_take (i := 12) (v := undef) (by simp only [List.getElem?_toArray, List.getElem?_cons_zero, List.getElem?_cons_succ]; rfl) (by kernel_rfl) (by kernel_rfl) (by kernel_rfl) (by intro _ _ _ h; exact h) (Or.inr ⟨by rfl, by rfl⟩) (by assumption) ?_
      simp only [Act.put, List.setIfInBounds_toArray, List.set_cons_zero, List.set_cons_succ]
      refine wpAnyH_take (i := 13) (v := undef) (by simp only [List.getElem?_toArray, List.getElem?_cons_zero, List.getElem?_cons_succ]; rfl) (by kernel_rfl) (by kernel_rfl) (by kernel_rfl) (by intro _ _ _ h; exact h) (Or.inr ⟨by rfl, by rfl⟩) (by assumption) ?_
      simp only [Act.put, List.setIfInBounds_toArray, List.set_cons_zero, List.set_cons_succ]
      refine wpAnyH_take (i := 14) (v := undef) (by simp only [List.getElem?_toArray, List.getElem?_cons_zero, List.getElem?_cons_succ]; rfl) (by kernel_rfl) (by kernel_rfl) (by kernel_rfl) (by intro _ _ _ h; exact h) (Or.inr ⟨by rfl, by rfl⟩) (by assumption) ?_
      simp only [Act.put, List.setIfInBounds_toArray, List.set_cons_zero, List.set_cons_succ]
      refine wpAnyH_take (i := 15) (v := undef) (by simp only [List.getElem?_toArray, List.getElem?_cons_zero, List.getElem?_cons_succ]; rfl) (by kernel_rfl) (by kernel_rfl) (by kernel_rfl) (by intro _ _ _ h; exact h) (Or.inr ⟨by rfl, by rfl⟩) (by assumption) ?_
      simp only [Act.put, List.setIfInBounds_toArray, List.set_cons_zero, List.set_cons_succ]
      refine wpAnyH_take (i := 16) (v := undef) (by simp only [List.getElem?_toArray, List.getElem?_cons_zero, List.getElem?_cons_succ]; rfl) (by kernel_rfl) (by kernel_rfl) (by kernel_rfl) (by intro _ _ _ h; exact h) (Or.inr ⟨by rfl, by rfl⟩) (by assumption) ?_
      simp only [Act.put, List.setIfInBounds_toArray, List.set_cons_zero, List.set_cons_succ]
      refine wpAnyH_take (i := 17) (v := undef) (by simp only [List.getElem?_toArray, List.getElem?_cons_zero, List.getElem?_cons_succ]; rfl) (by kernel_rfl) (by kernel_rfl) (by kernel_rfl) (by intro _ _ _ h; exact h) (Or.inr ⟨by rfl, by rfl⟩) (by assumption) ?_
      simp only [Act.put, List.setIfInBounds_toArray, List.set_cons_zero, List.set_cons_succ]
      refine wpAnyH_take (i := 18) (v := undef) (by simp only [List.getElem?_toArray, List.getElem?_cons_zero, List.getElem?_cons_succ]; rfl) (by kernel_rfl) (by kernel_rfl) (by kernel_rfl) (by intro _ _ _ h; exact h) (Or.inr ⟨by rfl, by rfl⟩) (by assumption) ?_
      simp only [Act.put, List.setIfInBounds_toArray, List.set_cons_zero, List.set_cons_succ]
      refine wpAnyH_take (i := 19) (v := undef) (by simp only [List.getElem?_toArray, List.getElem?_cons_zero, List.getElem?_cons_succ]; rfl) (by kernel_rfl) (by kernel_rfl) (by kernel_rfl) (by intro _ _ _ h; exact h) (Or.inr ⟨by rfl, by rfl⟩) (by assumption) ?_
      simp only [Act.put, List.setIfInBounds_toArray, List.set_cons_zero, List.set_cons_succ]
      refine wpAnyH_take (i := 20) (v := undef) (by simp only [List.getElem?_toArray, List.getElem?_cons_zero, List.getElem?_cons_succ]; rfl) (by kernel_rfl) (by kernel_rfl) (by kernel_rfl) (by intro _ _ _ h; exact h) (Or.inr ⟨by rfl, by rfl⟩) (by assumption) ?_
      simp only [Act.put, List.setIfInBounds_toArray, List.set_cons_zero, List.set_cons_succ]
      refine wpAnyH_take (i := 21) (v := undef) (by simp only [List.getElem?_toArray, List.getElem?_cons_zero, List.getElem?_cons_succ]; rfl) (by kernel_rfl) (by kernel_rfl) (by kernel_rfl) (by intro _ _ _ h; exact h) (Or.inr ⟨by rfl, by rfl⟩) (by assumption) ?_
      simp only [Act.put, List.setIfInBounds_toArray, List.set_cons_zero, List.set_cons_succ]
      refine wpAnyH_take (i := 22) (v := undef) (by simp only [List.getElem?_toArray, List.getElem?_cons_zero, List.getElem?_cons_succ]; rfl) (by kernel_rfl) (by kernel_rfl) (by kernel_rfl) (by intro _ _ _ h; exact h) (Or.inr ⟨by rfl, by rfl⟩) (by assumption) ?_
      simp only [Act.put, List.setIfInBounds_toArray, List.set_cons_zero, List.set_cons_succ]
      refine wpAnyH_take (i := 23) (v := undef) (by simp only [List.getElem?_toArray, List.getElem?_cons_zero, List.getElem?_cons_succ]; rfl) (by kernel_rfl) (by kernel_rfl) (by kernel_rfl) (by intro _ _ _ h; exact h) (Or.inr ⟨by rfl, by rfl⟩) (by assumption) ?_
      simp only [Act.put, List.setIfInBounds_toArray, List.set_cons_zero, List.set_cons_succ]
      refine wpAnyH_take (i := 24) (v := undef) (by simp only [List.getElem?_toArray, List.getElem?_cons_zero, List.getElem?_cons_succ]; rfl) (by kernel_rfl) (by kernel_rfl) (by kernel_rfl) (by intro _ _ _ h; exact h) (Or.inr ⟨by rfl, by rfl⟩) (by assumption) ?_
      simp only [Act.put, List.setIfInBounds_toArray, List.set_cons_zero, List.set_cons_succ]
      refine wpAnyH_take (i := 25) (v := undef) (by simp only [List.getElem?_toArray, List.getElem?_cons_zero, List.getElem?_cons_succ]; rfl) (by kernel_rfl) (by kernel_rfl) (by kernel_rfl) (by intro _ _ _ h; exact h) (Or.inr ⟨by rfl, by rfl⟩) (by assumption) ?_
      simp only [Act.put, List.setIfInBounds_toArray, List.set_cons_zero, List.set_cons_succ]
      refine wpAnyH_take (i := 26) (v := ?_) (by simp only [List.getElem?_toArray, List.getElem?_cons_zero, List.getElem?_cons_succ]; rfl) (by kernel_rfl) (by kernel_rfl) (by kernel_rfl) (by intro _ _ _ h; exact h) (Or.inl ⟨by rfl, ?_⟩) (by assumption) ?_
      rotate_left
      · intro w hSw; (try dsimp only at hSw); go_simp; (try with_reducible rfl)
      simp only [Act.put, List.setIfInBounds_toArray, List.set_cons_zero, List.set_cons_succ]
      refine wpAnyH_done (by kernel_rfl) ?_ _
      clear hHeld k0 k1 k2 k3 k4 k5
      have HY2 := Lib.hid (HX.out.keep HY.out)
      obtain ⟨k0, k1, k2, k3, k4, k5⟩ := HY2.out.cells
      obtain ⟨e0, e1, hbF⟩ := HY2.out.stored (.slice none 0 0) (.slice none 0 0)
      have HB := Lib.hid hbF
      clear hbF
      go_wp2_with fail
      refine bodyPost_ret (by simp [results, Try.results15, go_sem, e0, e1]; try rfl) rfl ?_
      exact .inr ⟨HO.out.2, rfl, HB.out⟩
    | true =>
      have hok2 := hle2.trans hok
      obtain ⟨k, hk, rfl, -, hl, hf⟩ := lentP_at hok2
      have HO := Lib.hid (show lentI L k = true ∧ appOk S.length L k m = decide ((m : Int) ≤ lsR L[k] - lsC L[k]) from ⟨hok, by unfold appOk; rw [hok2, getD_at hk]; rfl⟩)
      clear hok hle2 hok2
      obtain ⟨g, rfl, -⟩ := lease_cells HT.out.1.o1 hk
      have HLC := Lib.hid (fun W (h : Below w.heap.size w W) => lease_cells (HT.out.1.below h).o1 hk)
      have HK := Lib.hid (fun W (h : Below x.heap.size x W) => (show W.cell? ⟨w.heap.size, 0, none⟩ = some (.slice a S.length ca) ∧ W.cell? ⟨w.heap.size, 1, none⟩ = some (.slice (some ⟨g, 0, none⟩) L.length cb) ∧
          W.cell? ⟨g, k * 4 + 1, none⟩ = some (.int .i64 (lsC L[k])) ∧ W.cell? ⟨g, k * 4 + 2, none⟩ = some (.int .i64 (lsR L[k])) from by
        obtain ⟨g', e, -, -, h1, h2, -⟩ := HLC.out W (bel_go HX.out.bel h)
        cases e
        exact ⟨(HX.out.keep h).cells.1, (HX.out.keep h).cells.2.1, h1, h2⟩))
      obtain ⟨h1, h2, h3, h4, h5, h6⟩ := in_room hl hf
      obtain ⟨s, hs⟩ : ∃ s : Nat, lsS L[k] = s := ⟨(lsS L[k]).toNat, by omega⟩
      obtain ⟨c, hc⟩ : ∃ c : Nat, lsC L[k] = c := ⟨(lsC L[k]).toNat, by omega⟩
      obtain ⟨r, hr⟩ : ∃ r : Nat, lsR L[k] = r := ⟨(lsR L[k]).toNat, by omega⟩
      have HE := Lib.hid (show endAt L k = s + c ∧ moreL L k m = L.set k (lsS L[k], (c : Int) + (m : Int), lsR L[k], lsF L[k]) from ⟨endAt_at hk hs hc, by rw [moreL_at hk, hc]⟩)
      have HSC := Lib.hid (show _ ∧ _ from ⟨hs, hc⟩)
      rw [hs, hc, hr] at HLC
      rw [hc, hr] at HK
      rw [hc, hr] at HO
      rw [hf] at HLC
      have hsr : s + r ≤ S.length := by omega
      have hcr : c ≤ r := by omega
      have hr1 : 1 ≤ r := by omega
      have hwr : IntKind.i64.wrap ((r : Int) - c) = (r : Int) - c := by rw [IntKind.wrap_i64]; omega
      clear hl h1 h2 h3 h4 h5 h6 hf hs hc hr
      refine wp_region_held_drew (S := fun w' => w'.cell? ⟨w.heap.size, 0, none⟩ = some (.slice a S.length ca) ∧ w'.cell? ⟨w.heap.size, 1, none⟩ = some (.slice (some ⟨g, 0, none⟩) L.length cb) ∧ w'.cell? ⟨g, k * 4 + 1, none⟩ = some (.int .i64 (c : Int)) ∧ w'.cell? ⟨g, k * 4 + 2, none⟩ = some (.int .i64 (r : Int))) (by kernel_rfl) (HK.out _ HD.out) (fun hHeld => ?_)
      refine wpAnyH_take (i := 0) (v := ?_) (by simp only [List.getElem?_toArray, List.getElem?_cons_zero]; rfl) (by kernel_rfl) (by kernel_rfl) (by kernel_rfl) (by intro _ _ _ h; exact h) (Or.inl ⟨by rfl, ?_⟩) (by assumption) ?_
      rotate_left
      · intro w hSw; (try dsimp only at hSw); go_simp; (try with_reducible rfl)
      simp only [Act.put, List.setIfInBounds_toArray, List.set_cons_zero, List.set_cons_succ]
      refine wpAnyH_ready (rs := [1]) (by kernel_rfl) (by simp) ?_
      refine AllReadyH.cons rfl (fun K hK => ?_) AllReadyH.nil
      go_simp
      go_wp2_with (go_at_call 30; refine (isPool_i B _ _ S L _ (HT.out.1.below (bel_go HX.out.bel HD.out))).mono ?_; rintro e y1 ⟨rfl, hby⟩; rw [HV.out]; have HY1 := Lib.hid (bel_go (x := x) (W := x.drew) HD.out hby); clear hby)
      clear hHeld
      refine hK.out _ _ (HK.out _ HY1.out) (fun hHeld => ?_)
      clear hK K
      refine wpAnyH_take (i := 2) (v := ?_) (by simp only [List.getElem?_toArray, List.getElem?_cons_zero, List.getElem?_cons_succ]; rfl) (by kernel_rfl) (by kernel_rfl) (by kernel_rfl) (by intro _ _ _ h; exact h) (Or.inl ⟨by rfl, ?_⟩) (by assumption) ?_
      rotate_left
      · intro w hSw; (try dsimp only at hSw); go_simp; (try with_reducible rfl)
      simp only [Act.put, List.setIfInBounds_toArray, List.set_cons_zero, List.set_cons_succ]
      refine wpAnyH_take (i := 3) (v := ?_) (by simp only [List.getElem?_toArray, List.getElem?_cons_zero, List.getElem?_cons_succ]; rfl) (by kernel_rfl) (by kernel_rfl) (by kernel_rfl) (by intro _ _ _ h; exact h) (Or.inl ⟨by rfl, ?_⟩) (by assumption) ?_
      rotate_left
      · intro w hSw; (try dsimp only at hSw); go_simp; (try with_reducible rfl)
      simp only [Act.put, List.setIfInBounds_toArray, List.set_cons_zero, List.set_cons_succ]
      refine wpAnyH_take (i := 4) (v := ?_) (by simp only [List.getElem?_toArray, List.getElem?_cons_zero, List.getElem?_cons_succ]; rfl) (by kernel_rfl) (by kernel_rfl) (by kernel_rfl) (by intro _ _ _ h; exact h) (Or.inl ⟨by rfl, ?_⟩) (by assumption) ?_
      rotate_left
      · intro w hSw; (try dsimp only at hSw); go_simp; (try with_reducible rfl)
      simp only [Act.put, List.setIfInBounds_toArray, List.set_cons_zero, List.set_cons_succ]
      refine wpAnyH_take (i := 5) (v := ?_) (by simp only [List.getElem?_toArray, List.getElem?_cons_zero, List.getElem?_cons_succ]; rfl) (by kernel_rfl) (by kernel_rfl) (by kernel_rfl) (by intro _ _ _ h; exact h) (Or.inl ⟨by rfl, ?_⟩) (by assumption) ?_
      rotate_left
      · intro w hSw; (try dsimp only at hSw); go_simp; (try with_reducible rfl)
      simp only [Act.put, List.setIfInBounds_toArray, List.set_cons_zero, List.set_cons_succ]
      refine wpAnyH_ready (rs := [6]) (by kernel_rfl) (by simp) ?_
      refine AllReadyH.cons rfl (fun K hK => ?_) AllReadyH.nil
      go_simp
      go_wp2_with (go_at_call 31; refine (isLent_i B _ _ S L _ _ (HT.out.1.below (bel_go HX.out.bel HY1.out))).mono ?_; rintro e y ⟨rfl, hby⟩; rw [HO.out.1]; have HY := Lib.hid (bel_go (x := x) HY1.out hby); clear hby)
      clear hHeld
      refine hK.out _ _ (HK.out _ HY.out) (fun hHeld => ?_)
      clear hK K
      refine wpAnyH_take (i := 7) (v := ?_) (by simp only [List.getElem?_toArray, List.getElem?_cons_zero, List.getElem?_cons_succ]; rfl) (by kernel_rfl) (by kernel_rfl) (by kernel_rfl) (by intro _ _ _ h; exact h) (Or.inl ⟨by rfl, ?_⟩) (by assumption) ?_
      rotate_left
      · intro w hSw; (try dsimp only at hSw); go_simp; (try with_reducible rfl)
      simp only [Act.put, List.setIfInBounds_toArray, List.set_cons_zero, List.set_cons_succ]
      refine wpAnyH_take (i := 8) (v := ?_) (by simp only [List.getElem?_toArray, List.getElem?_cons_zero, List.getElem?_cons_succ]; rfl) (by kernel_rfl) (by kernel_rfl) (by kernel_rfl) (by intro _ _ _ h; exact h) (Or.inl ⟨by rfl, ?_⟩) (by assumption) ?_
      rotate_left
      · intro w hSw; (try dsimp only at hSw); go_simp; (try with_reducible rfl)
      simp only [Act.put, List.setIfInBounds_toArray, List.set_cons_zero, List.set_cons_succ]
      refine wpAnyH_take (i := 9) (v := ?_) (by simp only [List.getElem?_toArray, List.getElem?_cons_zero, List.getElem?_cons_succ]; rfl) (by kernel_rfl) (by kernel_rfl) (by kernel_rfl) (by intro _ _ _ h; exact h) (Or.inl ⟨by rfl, ?_⟩) (by assumption) ?_
      rotate_left
      · intro w hSw; (try dsimp only at hSw); go_simp; (try with_reducible rfl)
      simp only [Act.put, List.setIfInBounds_toArray, List.set_cons_zero, List.set_cons_succ]
      refine wpAnyH_take (i := 10) (v := ?_) (by simp only [List.getElem?_toArray, List.getElem?_cons_zero, List.getElem?_cons_succ]; rfl) (by kernel_rfl) (by kernel_rfl) (by kernel_rfl) (by intro _ _ _ h; exact h) (Or.inl ⟨by rfl, ?_⟩) (by assumption) ?_
      rotate_left
      · intro w hSw; (try dsimp only at hSw); go_simp; (try with_reducible rfl)
      simp only [Act.put, List.setIfInBounds_toArray, List.set_cons_zero, List.set_cons_succ]
      refine wpAnyH_take (i := 11) (v := ?_) (by simp only [List.getElem?_toArray, List.getElem?_cons_zero, List.getElem?_cons_succ]; rfl) (by kernel_rfl) (by kernel_rfl) (by kernel_rfl) (by intro _ _ _ h; exact h) (Or.inl ⟨by rfl, ?_⟩) (by assumption) ?_
      rotate_left
      · intro w hSw; (try dsimp only at hSw); go_simp; (try with_reducible rfl)
      simp only [Act.put, List.setIfInBounds_toArray, List.set_cons_zero, List.set_cons_succ]
      refine wpAnyH_take (i := 12) (v := ?_) (by simp only [List.getElem?_toArray, List.getElem?_cons_zero, List.getElem?_cons_succ]; rfl) (by kernel_rfl) (by kernel_rfl) (by kernel_rfl) (by intro _ _ _ h; exact h) (Or.inl ⟨by rfl, ?_⟩) (by assumption) ?_
      rotate_left
      · intro w hSw; (try dsimp only at hSw); go_simp; (try with_reducible rfl)
      simp only [Act.put, List.setIfInBounds_toArray, List.set_cons_zero, List.set_cons_succ]
      refine wpAnyH_take (i := 13) (v := ?_) (by simp only [List.getElem?_toArray, List.getElem?_cons_zero, List.getElem?_cons_succ]; rfl) (by kernel_rfl) (by kernel_rfl) (by kernel_rfl) (by intro _ _ _ h; exact h) (Or.inl ⟨by rfl, ?_⟩) (by assumption) ?_
      rotate_left
      · intro w hSw; (try dsimp only at hSw); go_simp; (try with_reducible rfl)
      simp only [Act.put, List.setIfInBounds_toArray, List.set_cons_zero, List.set_cons_succ]
      refine wpAnyH_take (i := 14) (v := ?_) (by simp only [List.getElem?_toArray, List.getElem?_cons_zero, List.getElem?_cons_succ]; rfl) (by kernel_rfl) (by kernel_rfl) (by kernel_rfl) (by intro _ _ _ h; exact h) (Or.inl ⟨by rfl, ?_⟩) (by assumption) ?_
      rotate_left
      · intro w hSw; (try dsimp only at hSw); go_simp; (try with_reducible rfl)
      simp only [Act.put, List.setIfInBounds_toArray, List.set_cons_zero, List.set_cons_succ]
      refine wpAnyH_take (i := 15) (v := ?_) (by simp only [List.getElem?_toArray, List.getElem?_cons_zero, List.getElem?_cons_succ]; rfl) (by kernel_rfl) (by kernel_rfl) (by kernel_rfl) (by intro _ _ _ h; exact h) (Or.inl ⟨by rfl, ?_⟩) (by assumption) ?_
      rotate_left
      · intro w hSw; (try dsimp only at hSw); go_simp; (try with_reducible rfl)
      simp only [Act.put, List.setIfInBounds_toArray, List.set_cons_zero, List.set_cons_succ]
      refine wpAnyH_take (i := 16) (v := ?_) (by simp only [List.getElem?_toArray, List.getElem?_cons_zero, List.getElem?_cons_succ]; rfl) (by kernel_rfl) (by kernel_rfl) (by kernel_rfl) (by intro _ _ _ h; exact h) (Or.inl ⟨by rfl, ?_⟩) (by assumption) ?_
      rotate_left
      · intro w hSw; (try dsimp only at hSw); go_simp; (try with_reducible rfl)
      simp only [Act.put, List.setIfInBounds_toArray, List.set_cons_zero, List.set_cons_succ]
      refine wpAnyH_take (i := 17) (v := ?_) (by simp only [List.getElem?_toArray, List.getElem?_cons_zero, List.getElem?_cons_succ]; rfl) (by kernel_rfl) (by kernel_rfl) (by kernel_rfl) (by intro _ _ _ h; exact h) (Or.inl ⟨by rfl, ?_⟩) (by assumption) ?_
      rotate_left
      · intro w hSw; (try dsimp only at hSw); go_simp; (try with_reducible rfl)
      simp only [Act.put, List.setIfInBounds_toArray, List.set_cons_zero, List.set_cons_succ]
      refine wpAnyH_take (i := 18) (v := ?_) (by simp only [List.getElem?_toArray, List.getElem?_cons_zero, List.getElem?_cons_succ]; rfl) (by kernel_rfl) (by kernel_rfl) (by kernel_rfl) (by intro _ _ _ h; exact h) (Or.inl ⟨by rfl, ?_⟩) (by assumption) ?_
      rotate_left
      · intro w hSw; (try dsimp only at hSw); go_simp; (try with_reducible rfl)
      simp only [Act.put, List.setIfInBounds_toArray, List.set_cons_zero, List.set_cons_succ]
      refine wpAnyH_take (i := 19) (v := ?_) (by simp only [List.getElem?_toArray, List.getElem?_cons_zero, List.getElem?_cons_succ]; rfl) (by kernel_rfl) (by kernel_rfl) (by kernel_rfl) (by intro _ _ _ h; exact h) (Or.inl ⟨by rfl, ?_⟩) (by assumption) ?_
      rotate_left
      · intro w hSw; (try dsimp only at hSw); go_simp; (try with_reducible rfl)
      simp only [Act.put, List.setIfInBounds_toArray, List.set_cons_zero, List.set_cons_succ]
      refine wpAnyH_take (i := 20) (v := ?_) (by simp only [List.getElem?_toArray, List.getElem?_cons_zero, List.getElem?_cons_succ]; rfl) (by kernel_rfl) (by kernel_rfl) (by kernel_rfl) (by intro _ _ _ h; exact h) (Or.inl ⟨by rfl, ?_⟩) (by assumption) ?_
      rotate_left
      · intro w hSw; (try dsimp only at hSw); go_simp; (try with_reducible rfl)
      simp only [Act.put, List.setIfInBounds_toArray, List.set_cons_zero, List.set_cons_succ]
      refine wpAnyH_take (i := 21) (v := ?_) (by simp only [List.getElem?_toArray, List.getElem?_cons_zero, List.getElem?_cons_succ]; rfl) (by kernel_rfl) (by kernel_rfl) (by kernel_rfl) (by intro _ _ _ h; exact h) (Or.inl ⟨by rfl, ?_⟩) (by assumption) ?_
      rotate_left
      · intro w hSw; (try dsimp only at hSw); go_simp; (try with_reducible rfl)
      simp only [Act.put, List.setIfInBounds_toArray, List.set_cons_zero, List.set_cons_succ]
      refine wpAnyH_take (i := 22) (v := ?_) (by simp only [List.getElem?_toArray, List.getElem?_cons_zero, List.getElem?_cons_succ]; rfl) (by kernel_rfl) (by kernel_rfl) (by kernel_rfl) (by intro _ _ _ h; exact h) (Or.inl ⟨by rfl, ?_⟩) (by assumption) ?_
      rotate_left
      · intro w hSw; (try dsimp only at hSw); go_simp; (try with_reducible rfl)
      simp only [Act.put, List.setIfInBounds_toArray, List.set_cons_zero, List.set_cons_succ]
      refine wpAnyH_take (i := 23) (v := ?_) (by simp only [List.getElem?_toArray, List.getElem?_cons_zero, List.getElem?_cons_succ]; rfl) (by kernel_rfl) (by kernel_rfl) (by kernel_rfl) (by intro _ _ _ h; exact h) (Or.inl ⟨by rfl, ?_⟩) (by assumption) ?_
      rotate_left
      · intro w hSw; (try dsimp only at hSw); go_simp; (try with_reducible rfl)
      simp only [Act.put, List.setIfInBounds_toArray, List.set_cons_zero, List.set_cons_succ]
      refine wpAnyH_take (i := 24) (v := ?_) (by simp only [List.getElem?_toArray, List.getElem?_cons_zero, List.getElem?_cons_succ]; rfl) (by kernel_rfl) (by kernel_rfl) (by kernel_rfl) (by intro _ _ _ h; exact h) (Or.inl ⟨by rfl, ?_⟩) (by assumption) ?_
      rotate_left
      · intro w hSw; (try dsimp only at hSw); go_simp; (try with_reducible rfl)
      simp only [Act.put, List.setIfInBounds_toArray, List.set_cons_zero, List.set_cons_succ]
      refine wpAnyH_take (i := 25) (v := ?_) (by simp only [List.getElem?_toArray, List.getElem?_cons_zero, List.getElem?_cons_succ]; rfl) (by kernel_rfl) (by kernel_rfl) (by kernel_rfl) (by intro _ _ _ h; exact h) (Or.inl ⟨by rfl, ?_⟩) (by assumption) ?_
      rotate_left
      · intro w hSw; (try dsimp only at hSw); go_simp; (try with_reducible rfl)
      simp only [Act.put, List.setIfInBounds_toArray, List.set_cons_zero, List.set_cons_succ]
      refine wpAnyH_take (i := 26) (v := ?_) (by simp only [List.getElem?_toArray, List.getElem?_cons_zero, List.getElem?_cons_succ]; rfl) (by kernel_rfl) (by kernel_rfl) (by kernel_rfl) (by intro _ _ _ h; exact h) (Or.inl ⟨by rfl, ?_⟩) (by assumption) ?_
      rotate_left
      · intro w hSw; (try dsimp only at hSw); go_simp; (try with_reducible rfl)
      simp only [Act.put, List.setIfInBounds_toArray, List.set_cons_zero, List.set_cons_succ]
      refine wpAnyH_done (by kernel_rfl) ?_ _
      clear hHeld k0 k1 k2 k3 k4 k5
      have HY2 := Lib.hid (HX.out.keep HY.out)
      obtain ⟨k0, k1, k2, k3, k4, k5⟩ := HY2.out.cells
      by_cases hroom : (m : Int) ≤ (r : Int) - c
      · have HV0 := Lib.hid (show appOk S.length L k m = true by rw [HO.out.2, decide_eq_true hroom])
        go_wp2_with fail
        refine (copy_i B _ _ S L _ (HT.out.1.below HY2.out.bel)).mono ?_
        rintro e z1 ⟨a1, c1, b1, c2, rfl, o, hbz⟩
        have HV := Lib.hid (PV.start HY2.out hbz o)
        clear o hbz k0 k1 k2 k3 k4 k5
        obtain ⟨g2, rfl, -, -⟩ := lease_cells HV.out.po.o1 hk
        obtain ⟨g1, rfl, -⟩ := samp_cell (i := 0) HV.out.po.o0 (by omega)
        have hcap : S.length ≤ c1 := by
          rcases row_val (HV.out.po.o0.own (by omega)) with ⟨he, -⟩ | ⟨_, _, he, -, -, h, -⟩
          · cases he
          · cases he; exact h
        obtain ⟨k0, k1, -, -⟩ := HV.out.cells
        go_upto_region 5 with fail
        generalize z1.alloc (.cells #[.slice (some ⟨g1, 0, none⟩) S.length c1, .slice (some ⟨g2, 0, none⟩) L.length c2] 25) = y2 at *
        generalize z1.heap.size = D at *
        have HP5 := Lib.hid (fun (W : World) (S' : List (Nat × Nat)) (h : PV w (.slice a S.length ca) (.slice (some ⟨g, 0, none⟩) L.length cb) D y.heap.size (.slice (some ⟨g1, 0, none⟩) S.length c1) (.slice (some ⟨g2, 0, none⟩) L.length c2) S' L W) => (show W.cell? ⟨D, 0, none⟩ = some (.slice (some ⟨g1, 0, none⟩) S.length c1) ∧ W.cell? ⟨g2, k * 4, none⟩ = some (.int .i64 (s : Int)) ∧ W.cell? ⟨g2, k * 4 + 1, none⟩ = some (.int .i64 (c : Int)) from by
          obtain ⟨g', e, -, h0, h1, -⟩ := lease_cells h.po.o1 hk
          cases e
          rw [HSC.out.1] at h0
          rw [HSC.out.2] at h1
          exact ⟨h.cells.1, h0, h1⟩))
        have HV5 := Lib.hid (show PV w (.slice a S.length ca) (.slice (some ⟨g, 0, none⟩) L.length cb) D y.heap.size (.slice (some ⟨g1, 0, none⟩) S.length c1) (.slice (some ⟨g2, 0, none⟩) L.length c2) S L y2.drew from HV.out.keep ((Below.refl _ _).drew))
        have hZc : (Z.map cx).length = m := by rw [List.length_map]; exact HT.out.2.2.2
        have HPut := Lib.hid (HV5.out.put (o := s + c) (Z := Z) (by rw [HT.out.2.2.2]; omega) rfl HT.out.2.2.1)
        have HSrc := Lib.hid ((HT.out.2.1.below HV5.out.arg.bel).src)
        clear k0 k1 HV hZc
        have hsc : IntKind.i64.wrap ((s : Int) + c) = (s : Int) + c := by rw [IntKind.wrap_i64]; omega
        have htn : ((s : Int) + (c : Int)).toNat = s + c := by omega
        have HFr := Lib.hid (fun j (hj : s + c + j < S.length) => HV5.out.cell rfl hj)
        have HZ0 := Lib.hid (show c1 = s + c → m = 0 from fun h => by omega)
        have HZc := Lib.hid (show (Z.map cx).length = m by rw [List.length_map]; exact HT.out.2.2.2)
        have HFr := Lib.hid (show (∀ j, j < (Z.map cx).length → (y2.drew.cell? ⟨g1, s + c + j, none⟩).isSome = true) ∧ (∀ j, j < (Z.map cx).length → y2.drew.frozen? ⟨g1, s + c + j, none⟩ = false) from
          ⟨fun j hj => by rw [HZc.out] at hj; rw [(HFr.out j (by omega)).1]; rfl, fun j hj => by rw [HZc.out] at hj; exact (HFr.out j (by omega)).2⟩)
        have HSp := Lib.hid (show 0 < (Z.map cx).length → ∃ ad, d = some ad ∧ ∀ j v, (Z.map cx)[j]? = some v → y2.drew.cell? (ad.add j) = some v from src_at HSrc.out)
        by_cases hcs : c1 = s + c
        · subst hcs
          have HZ1 := Lib.hid (show m = 0 from HZ0.out rfl)
          go_region_held_law (fun W => W.cell? ⟨D, 0, none⟩ = some (.slice (some ⟨g1, 0, none⟩) S.length (s + c)) ∧ W.cell? ⟨g2, k * 4, none⟩ = some (.int .i64 (s : Int)) ∧ W.cell? ⟨g2, k * 4 + 1, none⟩ = some (.int .i64 (c : Int)))
            (first
              | exact HP5.out _ _ HV5.out
              | exact HP5.out _ _ HPut.out)
            ((refine step_copy_any (by rfl) _ _ 22 22 (by rfl) 37 Try.underlying22 (by kernel_rfl) _ d _ _ m cd (by rfl) (by rfl) g1 (s + c) (Z.map cx) (by rw [HZc.out]; have := HZ1.out; subst this; simp) (fun h => by rw [HZc.out, HZ1.out] at h; omega) HFr.out.1 HFr.out.2 one_cx ?_))
          have HV6 := Lib.hid HPut.out
          generalize y2.drew.setCells g1 (s + c) (Z.map cx) = V at *
          clear HPut HFr HSrc HV5 HSp
          obtain ⟨k0, k1, -, -⟩ := HV6.out.cells
          obtain ⟨g', e, -, l0, l1, -⟩ := lease_cells HV6.out.po.o1 hk
          cases e
          rw [HSC.out.2] at l1
          have hfz := (HV6.out.po.o1.own (by omega)).frozenAt (k * 4 + 1)
          have hcm : IntKind.i64.wrap ((c : Int) + m) = (c : Int) + m := by rw [IntKind.wrap_i64]; omega
          have HN := Lib.hid (HV6.out.count rfl hk ((c : Int) + m))
          obtain ⟨m0, m1, -, -⟩ := HN.out.cells
          obtain ⟨-, -, p0, p1, p2, p3⟩ := HN.out.arg.cells
          obtain ⟨e0, e1, hbF⟩ := HN.out.arg.stored (.slice (some ⟨g1, 0, none⟩) S.length (s + c)) (.slice (some ⟨g2, 0, none⟩) L.length c2)
          have HF := Lib.hid hbF
          clear hbF
          go_wp2_with fail
          refine bodyPost_ret (by simp [results, Try.results15, go_sem, e0, e1]; try rfl) rfl ?_
          have ho := HN.out.out (.slice (some ⟨g1, 0, none⟩) S.length (s + c)) (.slice (some ⟨g2, 0, none⟩) L.length c2)
          refine .inl ⟨HV0.out, some ⟨g1, 0, none⟩, _, some ⟨g2, 0, none⟩, c2, rfl, ?_, HF.out⟩
          unfold appS
          rw [HE.out.1, HE.out.2]
          exact ho
        · go_region_held_law (fun W => W.cell? ⟨D, 0, none⟩ = some (.slice (some ⟨g1, 0, none⟩) S.length c1) ∧ W.cell? ⟨g2, k * 4, none⟩ = some (.int .i64 (s : Int)) ∧ W.cell? ⟨g2, k * 4 + 1, none⟩ = some (.int .i64 (c : Int)))
            (first
              | exact HP5.out _ _ HV5.out
              | exact HP5.out _ _ HPut.out)
            ((refine step_copy_any (by rfl) _ _ 22 22 (by rfl) 37 Try.underlying22 (by kernel_rfl) _ d _ _ m cd (by rfl) (by rfl) g1 (s + c) (Z.map cx) (by rw [HZc.out]; simp [Nat.min_def]; omega) (fun h => ⟨rfl, HSp.out h⟩) HFr.out.1 HFr.out.2 one_cx ?_))
          have HV6 := Lib.hid HPut.out
          generalize y2.drew.setCells g1 (s + c) (Z.map cx) = V at *
          clear HPut HFr HSrc HV5 HSp
          obtain ⟨k0, k1, -, -⟩ := HV6.out.cells
          obtain ⟨g', e, -, l0, l1, -⟩ := lease_cells HV6.out.po.o1 hk
          cases e
          rw [HSC.out.2] at l1
          have hfz := (HV6.out.po.o1.own (by omega)).frozenAt (k * 4 + 1)
          have hcm : IntKind.i64.wrap ((c : Int) + m) = (c : Int) + m := by rw [IntKind.wrap_i64]; omega
          have HN := Lib.hid (HV6.out.count rfl hk ((c : Int) + m))
          obtain ⟨m0, m1, -, -⟩ := HN.out.cells
          obtain ⟨-, -, p0, p1, p2, p3⟩ := HN.out.arg.cells
          obtain ⟨e0, e1, hbF⟩ := HN.out.arg.stored (.slice (some ⟨g1, 0, none⟩) S.length c1) (.slice (some ⟨g2, 0, none⟩) L.length c2)
          have HF := Lib.hid hbF
          clear hbF
          go_wp2_with fail
          refine bodyPost_ret (by simp [results, Try.results15, go_sem, e0, e1]; try rfl) rfl ?_
          have ho := HN.out.out (.slice (some ⟨g1, 0, none⟩) S.length c1) (.slice (some ⟨g2, 0, none⟩) L.length c2)
          refine .inl ⟨HV0.out, some ⟨g1, 0, none⟩, c1, some ⟨g2, 0, none⟩, c2, rfl, ?_, HF.out⟩
          unfold appS
          rw [HE.out.1, HE.out.2]
          exact ho
      · have HV0 := Lib.hid (show appOk S.length L k m = false by rw [HO.out.2, decide_eq_false hroom])
        obtain ⟨e0, e1, hbF⟩ := HY2.out.stored (.slice none 0 0) (.slice none 0 0)
        have HB := Lib.hid hbF
        clear hbF
        go_wp2_with fail
        refine bodyPost_ret (by simp [results, Try.results15, go_sem, e0, e1]; try rfl) rfl ?_
        exact .inr ⟨HV0.out, rfl, HB.out⟩
end Go.Proofs.Ytmfgffgfggkgcaa
