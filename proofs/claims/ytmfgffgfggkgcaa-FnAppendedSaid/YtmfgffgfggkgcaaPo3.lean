/-
  l3Pool and MakePool of the reference: some pool.
-/
import Derived.Test.YtmfgffgfggkgcaaLrm
import Derived.Test.YtmfgffgfggkgcaaMakeC
import Derived.Test.YtmfgffgfggkgcaaPool
namespace Go.Proofs.Ytmfgffgfggkgcaa
open Go.RowKit
def PointAns (c : Nat) (w : World) (e : Ending) (w' : World) : Prop := ∃ z : Nat × Nat, e = .returned (.complex .f32 z.1 z.2) ∧ (z.1 < 4294967296 ∧ z.2 < 4294967296) ∧ CurAt w' c ∧ Kp c w w'
set_option maxHeartbeats 1000000 in
theorem l2Any_any (c : Nat) (w : World) (hc : CurAt w c) : Calls Try.prog 43 #[.pointer (some ⟨c, 0, none⟩)] w (PointAns c w) := by
  have HC := Lib.hid hc
  clear hc
  go_enter Try.func43, Try.ntmps43
  go_wp2_with fail
  refine (l1Any_any c _ HC.out).mono ?_
  rintro e w1 ⟨x, rfl, hx, hc1, hk1⟩
  have R := Lib.hid (show _ ∧ _ from ⟨hc1, hk1⟩)
  clear hc1 hk1
  go_wp2_with fail
  refine (l1Any_any c _ R.out.1).mono ?_
  rintro e w2 ⟨y, rfl, hy, hc2, hk2⟩
  have R2 := Lib.hid (show _ ∧ _ from ⟨hc2, R.out.2.trans hk2⟩)
  clear hc2 hk2
  go_wp2_with fail
  go_ret
  exact ⟨(_, _), rfl, ⟨hx, hy⟩, R2.out.1, R2.out.2⟩
theorem OR.kp {w w' : World} {B e sz n c : Nat} {v : Value} {xs : List Value} (h : OR w B e sz v n xs) (hk : Kp c w w') (hc : c < B) : OR w' B e sz v n xs := by
  rcases h with h | h
  · exact .inl h
  · refine .inr (h.kept (row := some c) ⟨hk.os, hk.tape, hk.output, hk.size, fun k hk1 hk2 => hk.block k hk1 (fun e => hk2 (by rw [e]))⟩ ?_)
    cases hv : v.ownBlock with
    | none => exact .inl rfl
    | some g => exact .inr (by rw [← hv]; exact fun e => row_low h hc e.symm)
theorem PoO.kp {B c : Nat} {w w' : World} {v0 v1 : Value} {S : List (Nat × Nat)} {L : List Ls} (h : PoO B w v0 v1 S L) (hk : Kp c w w') (hc : c < B) : PoO B w' v0 v1 S L := ⟨h.o0.kp hk hc, h.o1.kp hk hc, h.wf, h.le0, h.le1⟩
/-- The drawn pool so far, in its variable. -/
structure MP (w : World) (c D : Nat) (u0 u1 : Value) (S : List (Nat × Nat)) (L : List Ls) (y : World) : Prop where
  cr : CurAt y c
  kp : Kp c w y
  res : y.heap[w.heap.size]? = some (.cells #[.slice none 0 0, .slice none 0 0] 25 (0, 0))
  var : y.heap[D]? = some (.cells #[u0, u1] 25 (0, 0))
  po : PoO (w.heap.size + 1) y u0 u1 S L
  hc : c < w.heap.size
  hD : w.heap.size < D
/-- The next pool, in its variable. -/
structure NX (w : World) (c D E : Nat) (u0 u1 : Value) (S : List (Nat × Nat)) (L : List Ls) (n0 n1 : Value) (S' : List (Nat × Nat)) (L' : List Ls) (y : World) : Prop where
  mp : MP w c D u0 u1 S L y
  nx : y.heap[E]? = some (.cells #[n0, n1] 25 (0, 0))
  po : PoO (w.heap.size + 1) y n0 n1 S' L'
  hDE : D < E
section
variable {w : World} {c D E : Nat} {u0 u1 n0 n1 : Value} {S S' : List (Nat × Nat)} {L L' : List Ls} {y y' : World}
theorem MP.lt (h : MP w c D u0 u1 S L y) : D < y.heap.size := (Array.getElem?_eq_some_iff.1 h.var).1
theorem MP.keep (h : MP w c D u0 u1 S L y) (hb : Below y.heap.size y y') : MP w c D u0 u1 S L y' := by
  have := h.lt
  have := h.hD
  exact ⟨curAt_below h.cr hb, h.kp.trans (Kp.of_below hb), (hb.block _ (by omega)).trans h.res, (hb.block _ h.lt).trans h.var, h.po.below hb, h.hc, h.hD⟩
theorem MP.draw (h : MP w c D u0 u1 S L y) (hc : CurAt y' c) (hk : Kp c y y') : MP w c D u0 u1 S L y' := by
  have := h.lt
  have h1 := h.hc
  have := h.hD
  exact ⟨hc, h.kp.trans hk, (hk.block _ (by omega) (by omega)).trans h.res, (hk.block _ h.lt (by omega)).trans h.var, h.po.kp hk (by omega), h.hc, h.hD⟩
theorem MP.cells (h : MP w c D u0 u1 S L y) : y.cell? ⟨D, 0, none⟩ = some u0 ∧ y.cell? ⟨D, 1, none⟩ = some u1 ∧ y.frozen? ⟨D, 0, none⟩ = false ∧ y.frozen? ⟨D, 1, none⟩ = false ∧
    y.cell? ⟨w.heap.size, 0, none⟩ = some (.slice none 0 0) ∧ y.cell? ⟨w.heap.size, 1, none⟩ = some (.slice none 0 0) ∧ y.frozen? ⟨w.heap.size, 0, none⟩ = false ∧ y.frozen? ⟨w.heap.size, 1, none⟩ = false :=
  ⟨cell_of_row _ _ 0 _ _ _ h.var, cell_of_row _ _ 1 _ _ _ h.var, frozen_of_row _ _ 0 _ _ h.var, frozen_of_row _ _ 1 _ _ h.var, cell_of_row _ _ 0 _ _ _ h.res, cell_of_row _ _ 1 _ _ _ h.res, frozen_of_row _ _ 0 _ _ h.res, frozen_of_row _ _ 1 _ _ h.res⟩
theorem NX.keep (h : NX w c D E u0 u1 S L n0 n1 S' L' y) (hb : Below y.heap.size y y') : NX w c D E u0 u1 S L n0 n1 S' L' y' :=
  ⟨h.mp.keep hb, (hb.block _ (Array.getElem?_eq_some_iff.1 h.nx).1).trans h.nx, h.po.below hb, h.hDE⟩
theorem NX.draw (h : NX w c D E u0 u1 S L n0 n1 S' L' y) (hc : CurAt y' c) (hk : Kp c y y') : NX w c D E u0 u1 S L n0 n1 S' L' y' := by
  have h1 := h.mp.hc
  have h2 := h.mp.hD
  have h3 := h.hDE
  exact ⟨h.mp.draw hc hk, (hk.block _ (Array.getElem?_eq_some_iff.1 h.nx).1 (by omega)).trans h.nx, h.po.kp hk (by omega), h.hDE⟩
theorem NX.start (h : MP w c D u0 u1 S L y) : NX w c D y.heap.size u0 u1 S L u0 u1 S L (y.alloc (.cells #[u0, u1] 25)) :=
  ⟨h.keep (bel_one _ _), heap_new _ _, h.po.below (bel_one _ _), h.lt⟩
theorem NX.ncells (h : NX w c D E u0 u1 S L n0 n1 S' L' y) : y.cell? ⟨E, 0, none⟩ = some n0 ∧ y.cell? ⟨E, 1, none⟩ = some n1 ∧ y.frozen? ⟨E, 0, none⟩ = false ∧ y.frozen? ⟨E, 1, none⟩ = false :=
  ⟨cell_of_row _ _ 0 _ _ _ h.nx, cell_of_row _ _ 1 _ _ _ h.nx, frozen_of_row _ _ 0 _ _ h.nx, frozen_of_row _ _ 1 _ _ h.nx⟩
theorem set2_ne {w2 : World} {N : Nat} {a b : Value} : ∀ k, k ≠ N → ((w2.setCell ⟨N, 0, none⟩ a).setCell ⟨N, 1, none⟩ b).heap[k]? = w2.heap[k]? := fun _ hk => (heap_setCell_other _ _ _ _ hk).trans (heap_setCell_other _ _ _ _ hk)
theorem PoO.set2 {B N : Nat} {w2 : World} {v0 v1 a b : Value} {cs : Array Value} (h : PoO B w2 v0 v1 S L) (hr : w2.heap[N]? = some (.cells cs 25 (0, 0))) : PoO B ((w2.setCell ⟨N, 0, none⟩ a).setCell ⟨N, 1, none⟩ b) v0 v1 S L := by
  have q0 := heap_setCell_same _ _ 0 _ _ a hr
  exact (h.setObj hr).setObj q0
/-- What a call returned is stored in the next pool's variable. -/
theorem NX.store {m0 m1 : Value} {S2 : List (Nat × Nat)} {L2 : List Ls} (h : NX w c D E u0 u1 S L n0 n1 S' L' y) (ho : PoO (w.heap.size + 1) y m0 m1 S2 L2) : NX w c D E u0 u1 S L m0 m1 S2 L2 ((y.setCell ⟨E, 0, none⟩ m0).setCell ⟨E, 1, none⟩ m1) := by
  have hc := h.mp.hc
  have hD := h.mp.hD
  have hDE := h.hDE
  have hk := h.mp.kp
  have r0 := heap_setCell_same _ _ 0 _ _ m0 h.nx
  have r1 := heap_setCell_same _ _ 1 _ _ m1 r0
  exact ⟨⟨curAt_keep h.mp.cr (fun k _ => set2_ne k (by omega)), ⟨hk.os, hk.tape, hk.output, by simpa using hk.size, fun k hkw hkc => (set2_ne k (by omega)).trans (hk.block k hkw hkc)⟩, (set2_ne _ (by omega)).trans h.mp.res, (set2_ne _ (by omega)).trans h.mp.var, h.mp.po.set2 h.nx, h.mp.hc, h.mp.hD⟩, r1, ho.set2 h.nx, h.hDE⟩
/-- The next pool is taken. -/
theorem NX.taken (h : NX w c D E u0 u1 S L n0 n1 S' L' y) : MP w c D n0 n1 S' L' ((y.setCell ⟨D, 0, none⟩ n0).setCell ⟨D, 1, none⟩ n1) := by
  have hc := h.mp.hc
  have hD := h.mp.hD
  have hk := h.mp.kp
  have r0 := heap_setCell_same _ _ 0 _ _ n0 h.mp.var
  have r1 := heap_setCell_same _ _ 1 _ _ n1 r0
  exact ⟨curAt_keep h.mp.cr (fun k _ => set2_ne k (by omega)), ⟨hk.os, hk.tape, hk.output, by simpa using hk.size, fun k hkw hkc => (set2_ne k (by omega)).trans (hk.block k hkw hkc)⟩, (set2_ne _ (by omega)).trans h.mp.res, r1, h.po.set2 h.mp.var, h.mp.hc, h.mp.hD⟩
end
def sizes : List Int := [0, 1, 8, 20, 40, 256]
theorem sizes_bd {z : Int} (h : z ∈ sizes) : 0 ≤ z ∧ z ≤ 256 := by
  simp [sizes] at h; omega
theorem sizes_holds (w : World) (cs : Array Value) (hcs : cs = #[.int .i64 0, .int .i64 1, .int .i64 8, .int .i64 20, .int .i64 40, .int .i64 256]) (T : TypeId) : Holds (w.alloc (.cells cs T)) w.heap.size 0 (sizes.map (Value.int .i64)) := by
  subst hcs
  intro i hi
  rw [Nat.zero_add, World.cell?_alloc_new]
  simp [sizes]
/-- Some pool, drawn. -/
def DrawnPool (c : Nat) (w : World) (e : Ending) (w' : World) : Prop :=
  ∃ (S : List (Nat × Nat)) (L : List Ls) (a : Option Addr) (ca : Nat) (b : Option Addr) (cb : Nat), e = .returned (.agg #[.slice a S.length ca, .slice b L.length cb]) ∧ PoO w.heap.size w' (.slice a S.length ca) (.slice b L.length cb) S L ∧ CurAt w' c ∧ Kp c w w'
theorem row_kp {w w' : World} {B e sz n c : Nat} {v : Value} {xs : List Value} (h : w.ownsRow B e sz v n xs) (hk : Kp c w w') (hc : c < B) : w'.ownsRow B e sz v n xs := by
  refine h.kept (row := some c) ⟨hk.os, hk.tape, hk.output, hk.size, fun k hk1 hk2 => hk.block k hk1 (fun e => hk2 (by rw [e]))⟩ ?_
  cases hv : v.ownBlock with
  | none => exact .inl rfl
  | some g => exact .inr (by rw [← hv]; exact fun e => row_low h hc e.symm)
theorem mp_lt {w y : World} {c D : Nat} {u0 u1 : Value} {S : List (Nat × Nat)} {L : List Ls} (h : MP w c D u0 u1 S L y) : w.heap.size + 1 ≤ y.heap.size := by
  have := h.hD
  have := h.lt
  omega
set_option maxHeartbeats 4000000 in
set_option maxRecDepth 100000 in
theorem l3Pool_any (c : Nat) (w : World) (hc : CurAt w c) : Calls Try.prog 25 #[.pointer (some ⟨c, 0, none⟩)] w (DrawnPool c w) := by
  have HC := Lib.hid hc
  clear hc
  obtain ⟨i0, hic, hz0, hz1, hz2⟩ := info_parts cxInfo'
  go_enter Try.func25, Try.ntmps25
  go_wp2_with fail
  have hlt := curAt_lt HC.out
  have hne : w.heap.size + 1 ≠ c := by omega
  have hbel : Below w.heap.size w ((w.alloc (.cells #[.slice none 0 0, .slice none 0 0] 25)).alloc (.cells #[.int .i64 0, .int .i64 1, .int .i64 8, .int .i64 20, .int .i64 40, .int .i64 256] 3)) := bel_al (bel_one _ _) _
  have HB := Lib.hid hbel
  clear hbel
  have hh := sizes_holds (w.alloc (.cells #[.slice none 0 0, .slice none 0 0] 25)) _ rfl 3
  rw [World.size_alloc] at hh
  refine (l01Int_any c (w.heap.size + 1) 0 6 sizes _ (curAt_below HC.out HB.out) (by decide) (by decide) hh hne).mono ?_
  rintro e w1 ⟨z, hz, rfl, hc1, hk1⟩
  obtain ⟨z1, z2⟩ := sizes_bd hz
  have hR := heap_new w (.cells #[.slice none 0 0, .slice none 0 0] 25)
  have hr : w1.heap[w.heap.size]? = some (.cells #[.slice none 0 0, .slice none 0 0] 25 (0, 0)) := (hk1.block _ (by simp; omega) (by omega)).trans ((Below.heap_alloc _ _ _ (by simp)).trans hR)
  have H1 := Lib.hid (show _ ∧ _ ∧ _ from ⟨hc1, (Kp.of_below HB.out).trans hk1, hr⟩)
  clear hc1 hk1 hr hR hh hz hne
  go_wp2_with fail
  refine (newPool_spec z _).mono ?_
  rintro e w2 (⟨-, -, g, rfl, ho, hb⟩ | ⟨hno, -⟩)
  rotate_left
  · exact absurd ⟨z1, z2⟩ hno
  have hsz1 : w.heap.size < w1.heap.size := (Array.getElem?_eq_some_iff.1 H1.out.2.2).1
  have hM : MP w c w2.heap.size (.slice (some ⟨g, 0, none⟩) (List.replicate z.toNat ((0, 0) : Nat × Nat)).length z.toNat) (.slice none 0 0) (List.replicate z.toNat ((0, 0) : Nat × Nat)) [] (w2.alloc (.cells #[.slice (some ⟨g, 0, none⟩) (List.replicate z.toNat ((0, 0) : Nat × Nat)).length z.toNat, .slice none 0 0] 25)) := by
    have hs2 := hb.size
    refine ⟨curAt_below (curAt_below H1.out.1 hb) (bel_one _ _), (H1.out.2.1.trans (Kp.of_below hb)).trans (Kp.of_below (bel_one _ _)), (Below.heap_alloc _ _ _ (by omega)).trans ((hb.block _ hsz1).trans H1.out.2.2), heap_new _ _, ⟨(OR.base (.inr (by rw [List.length_replicate]; exact ho)) (by omega)).below (bel_one _ _), OR.nil _ _ _ _, ?_, ?_, by simp⟩, hlt, by omega⟩
    · intro p hp; rw [List.mem_replicate] at hp; rw [hp.2]; decide
    · rw [List.length_replicate]; omega
  rw [List.length_replicate] at hM
  have H2 := Lib.hid hM
  clear hM ho hb H1
  unfold pool
  go_upto_region 2 with fail
  have HD := Lib.hid (show z.toNat = (List.replicate z.toNat ((0, 0) : Nat × Nat)).length by simp)
  generalize w2.alloc (.cells #[.slice (some ⟨g, 0, none⟩) z.toNat z.toNat, .slice none 0 0] 25) = x at *
  generalize w2.heap.size = D at *
  generalize List.replicate z.toNat ((0, 0) : Nat × Nat) = S0 at *
  go_wp2_with fail
  refine (l01Below_any c _ _ H2.out.cr (by decide) (by decide)).mono ?_
  rintro e w3 ⟨k0, rfl, hk0, hc3, hk3⟩
  have H3 := Lib.hid (H2.out.draw hc3 hk3)
  clear hc3 hk3 H2
  go_wp2_with fail
  go_loopw [5] (fun kv wr => ∃ (k : Nat) (S : List (Nat × Nat)) (L : List Ls) (a : Option Addr) (ca : Nat) (b : Option Addr) (cb : Nat), k ≤ 13 ∧ kv = .int .i64 k ∧ MP w c D (.slice a S.length ca) (.slice b L.length cb) S L wr) (fun kv _ => (intOf kv).toNat)
  case atStart => exact ⟨k0, S0, [], some ⟨g, 0, none⟩, S0.length, none, 0, by omega, rfl, by have := H3.out; rw [HD.out] at this; exact this⟩
  case round =>
    clear H3 hk0 z1 z2 HD
    obtain ⟨k, S, L, a, ca, b, cb, hk, rfl, hM⟩ := hrel
    have H3 := Lib.hid hM
    obtain ⟨m0, m1, m2, m3, -⟩ := hM.cells
    clear hM
    by_cases hlt : (0 : Int) < (k : Int)
    · have hL16 : L.length ≤ 16 := H3.out.po.le1
      go_wp2_with fail
      refine (l01Below_any c _ _ H3.out.cr (by omega) (by omega)).mono ?_
      rintro e w4 ⟨id, rfl, -, hc4, hk4⟩
      have H4 := Lib.hid (H3.out.draw hc4 hk4)
      clear hc4 hk4 H3 m0 m1 m2 m3
      obtain ⟨m0, m1, m2, m3, -⟩ := H4.out.cells
      go_upto_region 7 with fail
      have HN := Lib.hid (NX.start H4.out)
      clear m0 m1 m2 m3 H4
      generalize w4.alloc (.cells #[.slice a S.length ca, .slice b L.length cb] 25) = y at *
      generalize w4.heap.size = E at *
      go_wp2_with fail
      refine (l01Below_any c _ _ HN.out.mp.cr (by decide) (by decide)).mono ?_
      rintro e w5 ⟨j, rfl, hj, hc5, hk5⟩
      have HN2 := Lib.hid (HN.out.draw hc5 hk5)
      clear hc5 hk5 HN
      have HK := Lib.hid (fun (W : World) (h : MP w c D (.slice a S.length ca) (.slice b L.length cb) S L W) => (show W.cell? ⟨D, 0, none⟩ = some (.slice a S.length ca) ∧ W.cell? ⟨D, 1, none⟩ = some (.slice b L.length cb) from ⟨h.cells.1, h.cells.2.1⟩))
      by_cases hj1 : j ≤ 1
      · have hj01 : j = 0 ∨ j = 1 := by omega
        clear hj hj1
        rcases hj01 with rfl | rfl
        all_goals
          go_upto_region 17 with fail
          go_region_held_law (fun w' => w'.cell? ⟨D, 0, none⟩ = some (.slice a S.length ca) ∧ w'.cell? ⟨D, 1, none⟩ = some (.slice b L.length cb))
            (first
              | exact HK.out _ (HN2.out.keep ((Below.refl _ _).drew)).mp
              | exact HK.out _ T1.out.mp
              | exact HK.out _ T2.out.1.mp
              | exact HK.out _ (T2.out.1.store T2.out.2).mp)
            (first
              | (go_at_call 39; refine (l01Below_any c 9 _ ?_ (by decide) (by decide)).mono ?_; (exact (HN2.out.keep ((Below.refl _ _).drew)).mp.cr); rintro e w6 ⟨x, rfl, hx, hc6, hk6⟩; have T1 := Lib.hid ((HN2.out.keep ((Below.refl _ _).drew)).draw hc6 hk6); clear hc6 hk6)
              | (go_at_call 40; refine (lend_s (w.heap.size + 1) _ _ S L _ _ T1.out.mp.po).mono ?_; rintro e w7 ⟨S2, L2, a2, c2, b2, d2, i2, v2, rfl, ho, hb⟩; have T2 := Lib.hid (show _ ∧ _ from ⟨T1.out.keep hb, ho.base (mp_lt T1.out.mp)⟩); clear ho hb; obtain ⟨n0, n1, n2, n3⟩ := T2.out.1.ncells))
          have HX := Lib.hid (T2.out.1.store T2.out.2)
          clear n0 n1 n2 n3
          cases v2 with
          | false =>
            go_wp2_with fail
            go_roundw
            case rel => exact ⟨k - 1, S, L, a, ca, b, cb, by omega, by go_num, HX.out.mp⟩
            case measure => simp [intOf]; omega
          | true =>
            obtain ⟨m0, m1, m2, m3, -⟩ := (HX.out).mp.cells
            obtain ⟨n0, n1, n2, n3⟩ := (HX.out).ncells
            go_wp2_with fail
            go_roundw
            case rel => exact ⟨k - 1, S2, L2, a2, c2, b2, d2, by omega, by go_num, (HX.out).taken⟩
            case measure => simp [intOf]; omega
      · by_cases hj2 : j = 2
        · subst hj2
          clear hj hj1
          obtain ⟨m0, m1, m2, m3, -⟩ := HN2.out.mp.cells
          go_wp2_with fail
          refine (give_s (w.heap.size + 1) _ _ S L _ _ HN2.out.mp.po).mono ?_
          rintro e w7 ⟨S2, L2, a2, c2, b2, d2, rfl, ho, hb⟩
          generalize lentP S.length L ↑id = v2
          have T2 := Lib.hid (show _ ∧ _ from ⟨HN2.out.keep hb, ho.base (mp_lt HN2.out.mp)⟩)
          clear ho hb m0 m1 m2 m3
          obtain ⟨n0, n1, n2, n3⟩ := T2.out.1.ncells
          have HX := Lib.hid (T2.out.1.store T2.out.2)
          go_upto_region 22 with fail
          clear n0 n1 n2 n3
          cases v2 with
          | false =>
            go_wp2_with fail
            go_roundw
            case rel => exact ⟨k - 1, S, L, a, ca, b, cb, by omega, by go_num, HX.out.mp⟩
            case measure => simp [intOf]; omega
          | true =>
            obtain ⟨m0, m1, m2, m3, -⟩ := (HX.out).mp.cells
            obtain ⟨n0, n1, n2, n3⟩ := (HX.out).ncells
            go_wp2_with fail
            go_roundw
            case rel => exact ⟨k - 1, S2, L2, a2, c2, b2, d2, by omega, by go_num, (HX.out).taken⟩
            case measure => simp [intOf]; omega
        · by_cases hj3 : j = 3
          · subst hj3
            clear hj hj1 hj2
            go_upto_region 21 with fail
            go_region_held_law (fun w' => w'.cell? ⟨D, 0, none⟩ = some (.slice a S.length ca) ∧ w'.cell? ⟨D, 1, none⟩ = some (.slice b L.length cb))
              (first
                | exact HK.out _ (HN2.out.keep ((Below.refl _ _).drew)).mp
                | exact HK.out _ T1.out.mp
                | exact HK.out _ T2.out.1.mp
                | exact HK.out _ (T2.out.1.store T2.out.2).mp)
              (first
                | (go_at_call 39; refine (l01Below_any c 4 _ ?_ (by decide) (by decide)).mono ?_; (exact (HN2.out.keep ((Below.refl _ _).drew)).mp.cr); rintro e w6 ⟨x, rfl, hx, hc6, hk6⟩; have T1 := Lib.hid ((HN2.out.keep ((Below.refl _ _).drew)).draw hc6 hk6); clear hc6 hk6)
                | (go_at_call 42; refine (cut_s (w.heap.size + 1) _ _ S L _ _ _ T1.out.mp.po).mono ?_; rintro e w7 ⟨S2, L2, a2, c2, b2, d2, i2, v2, rfl, ho, hb⟩; have T2 := Lib.hid (show _ ∧ _ from ⟨T1.out.keep hb, ho.base (mp_lt T1.out.mp)⟩); clear ho hb; obtain ⟨n0, n1, n2, n3⟩ := T2.out.1.ncells))
            have HX := Lib.hid (T2.out.1.store T2.out.2)
            clear n0 n1 n2 n3
            cases v2 with
            | false =>
              go_wp2_with fail
              go_roundw
              case rel => exact ⟨k - 1, S, L, a, ca, b, cb, by omega, by go_num, HX.out.mp⟩
              case measure => simp [intOf]; omega
            | true =>
              obtain ⟨m0, m1, m2, m3, -⟩ := (HX.out).mp.cells
              obtain ⟨n0, n1, n2, n3⟩ := (HX.out).ncells
              go_wp2_with fail
              go_roundw
              case rel => exact ⟨k - 1, S2, L2, a2, c2, b2, d2, by omega, by go_num, (HX.out).taken⟩
              case measure => simp [intOf]; omega
          · have hj45 : j = 4 ∨ j = 5 := by omega
            clear hj hj1 hj2 hj3
            rcases hj45 with rfl | rfl
            all_goals
              go_wp2_with fail
              have hlit : (w5.alloc (.cells #[] 37)).ownsRow w5.heap.size 37 1 (.slice (some ⟨w5.heap.size, 0, none⟩) 0 0) 0 [] := World.ownsRow_lit w5 #[] 0 (Nat.le_refl _) (by decide) rfl
              have HL := Lib.hid hlit
              clear hlit
              refine (l01Below_any c _ _ (curAt_below HN2.out.mp.cr (bel_one _ _)) (by decide) (by decide)).mono ?_
              rintro e w6 ⟨n, rfl, hn, hc6, hk6⟩
              have HQ := Lib.hid (show _ ∧ _ ∧ _ from ⟨hc6, (Kp.of_below (bel_one _ _)).trans hk6, row_kp HL.out hk6 (Nat.lt_of_le_of_lt (Nat.le_of_lt HN2.out.mp.hc) (mp_lt HN2.out.mp))⟩)
              clear hc6 hk6 HL
              go_wp2_with fail
              go_loopw [10, 9] (fun t q wr => ∃ (i : Nat) (Z : List (Nat × Nat)) (d : Option Addr) (cd : Nat), i ≤ 4 ∧ Z.length + i ≤ 4 ∧ t = .int .i64 i ∧ q = .slice d Z.length cd ∧ (∀ p ∈ Z, p.1 < 4294967296 ∧ p.2 < 4294967296) ∧ CurAt wr c ∧ Kp c w5 wr ∧ wr.ownsRow w5.heap.size 37 1 (.slice d Z.length cd) Z.length (Z.map cx)) (fun t _ _ => (intOf t).toNat)
              case atStart => exact ⟨n, [], _, 0, by omega, by simp; omega, rfl, rfl, (fun _ h => by cases h), HQ.out.1, HQ.out.2.1, HQ.out.2.2⟩
              case round =>
                clear HQ hn
                obtain ⟨i, Z, d, cd, hi, hZi, rfl, rfl, hzw, hcr, hkp, hown⟩ := hrel
                have HR := Lib.hid (show _ ∧ _ ∧ _ ∧ _ from ⟨hzw, hcr, hkp, hown⟩)
                clear hzw hcr hkp hown
                by_cases hpos : (0 : Int) < (i : Int)
                · go_wp2_with fail
                  refine (l2Any_any c _ HR.out.2.1).mono ?_
                  rintro e w7 ⟨z, rfl, hz, hc7, hk7⟩
                  have HT := Lib.hid (show _ ∧ _ ∧ _ ∧ _ from ⟨hz, hc7, HR.out.2.2.1.trans hk7, row_kp HR.out.2.2.2 hk7 (Nat.lt_of_le_of_lt (Nat.le_of_lt HN2.out.mp.hc) (mp_lt HN2.out.mp))⟩)
                  have hs7 := HT.out.2.2.1.size
                  clear hz hc7 hk7
                  go_wp2_with (at_builtin; refine wpList_append_own _ rfl _ _ 22 rfl w5.heap.size 37 i0 (.complex .f32 0 0) 1 8 Try.underlying22 hic hz0 hz1 hz2 rfl (by decide) _ _ _ rfl (World.ownsRow.alloc HT.out.2.2.2 _) ⟨w7.heap.size, 0, none⟩ 1 1 [_] rfl rfl (cell_one_new _ _ _) ?c2 ?c3 ?c4 ?c5 ?_)
                  case c2 => intro x hx; rw [List.mem_singleton] at hx; subst hx; rfl
                  case c3 => unfold maxLen; omega
                  case c4 => omega
                  case c5 => simp; omega
                  intro v' w8 hown hgrow _
                  obtain ⟨a8, c8, rfl⟩ := OR.open (.inr hown)
                  have hcw := HN2.out.mp.hc
                  have hw5 := mp_lt HN2.out.mp
                  have hold : ∀ k, k < w5.heap.size → w8.heap[k]? = w7.heap[k]? := fun k hk => (hgrow.block k (by simp; omega) (row_low HT.out.2.2.2 hk)).trans (Below.heap_alloc _ _ _ (by omega))
                  have hgs := hgrow.size
                  have h8 : CurAt w8 c ∧ Kp c w5 w8 ∧ w8.ownsRow w5.heap.size 37 1 (.slice a8 (Z.length + 1) c8) (Z.length + 1) ((Z ++ [z]).map cx) := by
                    refine ⟨curAt_keep HT.out.2.1 (fun k hk => hold k (by omega)), ⟨hgrow.os.trans HT.out.2.2.1.os, hgrow.tape.trans HT.out.2.2.1.tape, hgrow.output.trans HT.out.2.2.1.output, ?_, fun k hk hkc => (hold k hk).trans (HT.out.2.2.1.block k hk hkc)⟩, ?_⟩
                    · simp at hgs; omega
                    · rw [List.map_append]; exact hown
                  have H8 := Lib.hid h8
                  clear h8 hold hgs hgrow hown hw5 hcw
                  go_wp2_with fail
                  go_roundw
                  case rel => exact ⟨i - 1, Z ++ [z], a8, c8, by omega, by simp; omega, by go_num, by rw [List.length_append]; rfl, (fun p hp => by
                    rcases List.mem_append.1 hp with h | h
                    · exact HR.out.1 p h
                    · rw [List.mem_singleton] at h; rw [h]; exact HT.out.1), H8.out.1, H8.out.2.1, by rw [List.length_append]; exact H8.out.2.2⟩
                  case measure => simp [intOf]; omega
                · obtain rfl : i = 0 := by omega
                  have HZ4 := Lib.hid (show Z.length ≤ 1048576 by omega)
                  clear hpos hi hZi
                  have HNX := Lib.hid (HN2.out.draw HR.out.2.1 HR.out.2.2.1)
                  obtain ⟨m0, m1, m2, m3, -⟩ := HNX.out.mp.cells
                  go_wp2_with fail
                  refine (append_s (w.heap.size + 1) w5.heap.size _ _ S L _ d _ cd Z _ HNX.out.mp.po (.inr HR.out.2.2.2) HR.out.1 HZ4.out).mono ?_
                  rintro e w7 ⟨S2, L2, a2, c2, b2, d2, rfl, ho, hb⟩
                  generalize appOk S.length L ↑id Z.length = v2
                  have T2 := Lib.hid (show _ ∧ _ from ⟨HNX.out.keep hb, ho.base (mp_lt HNX.out.mp)⟩)
                  clear ho hb m0 m1 m2 m3
                  obtain ⟨n0, n1, n2, n3⟩ := T2.out.1.ncells
                  have HX := Lib.hid (T2.out.1.store T2.out.2)
                  go_upto_region 22 with fail
                  clear n0 n1 n2 n3
                  cases v2 with
                  | false =>
                    go_wp2_with fail
                    go_roundw
                    case rel => exact ⟨k - 1, S, L, a, ca, b, cb, by omega, by go_num, HX.out.mp⟩
                    case measure => simp [intOf]; omega
                  | true =>
                    obtain ⟨m0, m1, m2, m3, -⟩ := (HX.out).mp.cells
                    obtain ⟨n0, n1, n2, n3⟩ := (HX.out).ncells
                    go_wp2_with fail
                    go_roundw
                    case rel => exact ⟨k - 1, S2, L2, a2, c2, b2, d2, by omega, by go_num, (HX.out).taken⟩
                    case measure => simp [intOf]; omega
    · obtain ⟨-, -, -, -, r0, r1, r2, r3⟩ := H3.out.cells
      have hD := H3.out.hD
      have q0 := heap_setCell_same _ _ 0 _ _ (.slice a S.length ca) H3.out.res
      have q1 := heap_setCell_same _ _ 1 _ _ (.slice b L.length cb) q0
      have e0 : ((wr.setCell ⟨w.heap.size, 0, none⟩ (.slice a S.length ca)).setCell ⟨w.heap.size, 1, none⟩ (.slice b L.length cb)).cell? ⟨w.heap.size, 0, none⟩ = some (.slice a S.length ca) := cell_of_row _ _ 0 _ _ _ q1
      have e1 : ((wr.setCell ⟨w.heap.size, 0, none⟩ (.slice a S.length ca)).setCell ⟨w.heap.size, 1, none⟩ (.slice b L.length cb)).cell? ⟨w.heap.size, 1, none⟩ = some (.slice b L.length cb) := cell_of_row _ _ 1 _ _ _ q1
      clear q0 q1
      go_wp2_with fail
      refine bodyPost_ret (by simp [results, Try.results25, go_sem, e0, e1]; try rfl) rfl ?_
      have hk := H3.out.kp
      have hcc := H3.out.hc
      exact ⟨S, L, a, ca, b, cb, rfl, (H3.out.po.set2 H3.out.res).base (Nat.le_succ _), curAt_keep H3.out.cr (fun k _ => set2_ne k (by omega)), ⟨hk.os, hk.tape, hk.output, by simpa using hk.size, fun k hkw hkc => (set2_ne k (by omega)).trans (hk.block k hkw hkc)⟩⟩
/-- Some pool, made of bytes. -/
def MadePool (w : World) (e : Ending) (w' : World) : Prop :=
  ∃ (S : List (Nat × Nat)) (L : List Ls) (a : Option Addr) (ca : Nat) (b : Option Addr) (cb : Nat), e = .returned (.agg #[.slice a S.length ca, .slice b L.length cb]) ∧ PoO w.heap.size w' (.slice a S.length ca) (.slice b L.length cb) S L ∧ Below w.heap.size w w'
set_option maxHeartbeats 1000000 in
theorem makePool_any (a : Option Addr) (len cap : Nat) (xs : List Value) (w : World) (hx : CodeAt w a len xs) : Calls Try.prog 10 #[.slice a len cap] w (MadePool w) := by
  have H := Lib.hid hx
  clear hx
  go_enter Try.func10, Try.ntmps10
  go_wp2_with fail
  have hR := heap_new w (.cells #[.slice none 0 0, .slice none 0 0] 25)
  have hb0 := bel_one w (.cells #[.slice none 0 0, .slice none 0 0] 25)
  have HR := Lib.hid (show _ ∧ _ from ⟨hR, hb0⟩)
  clear hR hb0
  refine (l01New_any _ _ _ _ _ (show CodeAt _ a len xs from ⟨H.out.1.below HR.out.2, H.out.2⟩)).mono ?_
  rintro e w1 ⟨c, rfl, hc, hc1, hb1⟩
  have R := Lib.hid (show _ ∧ _ from ⟨hc1, hb1⟩)
  clear hc1 hb1
  go_wp2_with fail
  refine (l3Pool_any c _ R.out.1).mono ?_
  rintro e w2 ⟨S, L, a1, c1, b1, d1, rfl, ho, hc2, hk2⟩
  simp only [World.size_alloc] at hc
  have hlt := curAt_lt R.out.1
  have hr : w2.heap[w.heap.size]? = some (.cells #[.slice none 0 0, .slice none 0 0] 25 (0, 0)) := (hk2.block _ (by omega) (by omega)).trans ((R.out.2.block _ (by simp)).trans HR.out.1)
  have hbl : Below w.heap.size w w2 := (bel_go HR.out.2 R.out.2).trans (hk2.below (by omega) (by omega))
  have q0 := heap_setCell_same _ _ 0 _ _ (.slice a1 S.length c1) hr
  have q1 := heap_setCell_same _ _ 1 _ _ (.slice b1 L.length d1) q0
  have e0 : ((w2.setCell ⟨w.heap.size, 0, none⟩ (.slice a1 S.length c1)).setCell ⟨w.heap.size, 1, none⟩ (.slice b1 L.length d1)).cell? ⟨w.heap.size, 0, none⟩ = some (.slice a1 S.length c1) := cell_of_row _ _ 0 _ _ _ q1
  have e1 : ((w2.setCell ⟨w.heap.size, 0, none⟩ (.slice a1 S.length c1)).setCell ⟨w.heap.size, 1, none⟩ (.slice b1 L.length d1)).cell? ⟨w.heap.size, 1, none⟩ = some (.slice b1 L.length d1) := cell_of_row _ _ 1 _ _ _ q1
  have r0 : w2.cell? ⟨w.heap.size, 0, none⟩ = some (.slice none 0 0) := cell_of_row _ _ 0 _ _ _ hr
  have r1 : w2.cell? ⟨w.heap.size, 1, none⟩ = some (.slice none 0 0) := cell_of_row _ _ 1 _ _ _ hr
  have r2 := frozen_of_row _ _ 0 _ _ hr
  have r3 := frozen_of_row _ _ 1 _ _ hr
  have HF := Lib.hid (show _ ∧ Below w.heap.size w ((w2.setCell ⟨w.heap.size, 0, none⟩ (.slice a1 S.length c1)).setCell ⟨w.heap.size, 1, none⟩ (.slice b1 L.length d1)) from ⟨((ho.base (show w.heap.size ≤ w1.heap.size by omega)).set2 (a := .slice a1 S.length c1) (b := .slice b1 L.length d1) hr), (hbl.setCell (Nat.le_refl _) _).setCell (Nat.le_refl _) _⟩)
  clear q0 q1 hr hbl ho hc2 hk2
  go_wp2_with fail
  refine bodyPost_ret (by simp [results, Try.results10, go_sem, e0, e1]; try rfl) rfl ?_
  exact ⟨S, L, a1, c1, b1, d1, rfl, HF.out.1, HF.out.2⟩
end Go.Proofs.Ytmfgffgfggkgcaa
