/-
  l3Put of the reference: a lease is put in the first free place, or behind all others.
-/
import Derived.Test.YtmfgffgfggkgcaaAwS
namespace Go.Proofs.Ytmfgffgfggkgcaa
open Go.RowKit
theorem OR.lt {w : World} {B e sz n cap g : Nat} {xs : List Value} (h : OR w B e sz (.slice (some ⟨g, 0, none⟩) n cap) n xs) (hn : 0 < n) : g < w.heap.size := by
  rcases row_val (h.own hn) with ⟨he, -⟩ | ⟨g', c', he, -, hg, -⟩
  · cases he
  · cases he; exact hg
theorem PoO.setObj {B D j : Nat} {w : World} {v0 v1 u : Value} {S : List (Nat × Nat)} {L : List Ls} {c : Array Value} (h : PoO B w v0 v1 S L) (hr : w.heap[D]? = some (.cells c 25 (0, 0))) : PoO B (w.setCell ⟨D, j, none⟩ u) v0 v1 S L :=
  ⟨h.o0.setObj hr (by decide), h.o1.setObj hr (by decide), h.wf, h.le0, h.le1⟩
/-- The box of the pool and the cell of the result. -/
structure PW (B : Nat) (w : World) (v0 v1 : Value) (S : List (Nat × Nat)) (L : List Ls) (y : World) : Prop where
  bel : Below B w y
  box : y.heap[w.heap.size]? = some (.cells #[v0, v1] 25 (0, 0))
  res : y.heap[w.heap.size + 2]? = some (.cells #[.slice none 0 0, .slice none 0 0] 25 (0, 0))
  po : PoO B y v0 v1 S L
  hB : B ≤ w.heap.size
section
variable {B : Nat} {w y y' : World} {v0 v1 : Value} {s c r : Int} {f : Bool} {S : List (Nat × Nat)} {L : List Ls}
theorem PW.lt (h : PW B w v0 v1 S L y) : w.heap.size + 2 < y.heap.size := (Array.getElem?_eq_some_iff.1 h.res).1
theorem PW.start (w : World) (hp : PoO B w v0 v1 S L) (hB : B ≤ w.heap.size) (s c r : Int) (f : Bool) : PW B w v0 v1 S L (((w.alloc (.cells #[v0, v1] 25)).alloc (.cells #[.int .i64 s, .int .i64 c, .int .i64 r, .bool f] 52)).alloc (.cells #[.slice none 0 0, .slice none 0 0] 25)) ∧
    (((w.alloc (.cells #[v0, v1] 25)).alloc (.cells #[.int .i64 s, .int .i64 c, .int .i64 r, .bool f] 52)).alloc (.cells #[.slice none 0 0, .slice none 0 0] 25)).heap[w.heap.size + 1]? = some (.cells #[.int .i64 s, .int .i64 c, .int .i64 r, .bool f] 52 (0, 0)) := by
  have hb : Below w.heap.size w (((w.alloc (.cells #[v0, v1] 25)).alloc (.cells #[.int .i64 s, .int .i64 c, .int .i64 r, .bool f] 52)).alloc (.cells #[.slice none 0 0, .slice none 0 0] 25)) := bel_al (bel_al (bel_one _ _) _) _
  refine ⟨⟨hb.mono hB, ?_, ?_, hp.below hb, hB⟩, ?_⟩
  · rw [Below.heap_alloc _ _ _ (by simp; omega), Below.heap_alloc _ _ _ (by simp)]; exact heap_new _ _
  · have := heap_new ((w.alloc (.cells #[v0, v1] 25)).alloc (.cells #[.int .i64 s, .int .i64 c, .int .i64 r, .bool f] 52)) (.cells #[.slice none 0 0, .slice none 0 0] 25)
    rwa [World.size_alloc, World.size_alloc] at this
  · rw [Below.heap_alloc _ _ _ (by simp)]
    have := heap_new (w.alloc (.cells #[v0, v1] 25)) (.cells #[.int .i64 s, .int .i64 c, .int .i64 r, .bool f] 52)
    rwa [World.size_alloc] at this
theorem PW.cells (h : PW B w v0 v1 S L y) : y.cell? ⟨w.heap.size, 0, none⟩ = some v0 ∧ y.cell? ⟨w.heap.size, 1, none⟩ = some v1 ∧ y.frozen? ⟨w.heap.size, 0, none⟩ = false ∧ y.frozen? ⟨w.heap.size, 1, none⟩ = false ∧
    y.cell? ⟨w.heap.size + 2, 0, none⟩ = some (.slice none 0 0) ∧ y.cell? ⟨w.heap.size + 2, 1, none⟩ = some (.slice none 0 0) ∧ y.frozen? ⟨w.heap.size + 2, 0, none⟩ = false ∧ y.frozen? ⟨w.heap.size + 2, 1, none⟩ = false :=
  ⟨cell_of_row _ _ 0 _ _ _ h.box, cell_of_row _ _ 1 _ _ _ h.box, frozen_of_row _ _ 0 _ _ h.box, frozen_of_row _ _ 1 _ _ h.box,
   cell_of_row _ _ 0 _ _ _ h.res, cell_of_row _ _ 1 _ _ _ h.res, frozen_of_row _ _ 0 _ _ h.res, frozen_of_row _ _ 1 _ _ h.res⟩
theorem lcells (h : y.heap[w.heap.size + 1]? = some (.cells #[.int .i64 s, .int .i64 c, .int .i64 r, .bool f] 52 (0, 0))) : y.cell? ⟨w.heap.size + 1, 0, none⟩ = some (.int .i64 s) ∧ y.cell? ⟨w.heap.size + 1, 1, none⟩ = some (.int .i64 c) ∧ y.cell? ⟨w.heap.size + 1, 2, none⟩ = some (.int .i64 r) ∧ y.cell? ⟨w.heap.size + 1, 3, none⟩ = some (.bool f) :=
  ⟨cell_of_row _ _ 0 _ _ _ h, cell_of_row _ _ 1 _ _ _ h, cell_of_row _ _ 2 _ _ _ h, cell_of_row _ _ 3 _ _ _ h⟩
theorem PW.keep (h : PW B w v0 v1 S L y) (hb : Below y.heap.size y y') : PW B w v0 v1 S L y' := by
  have := h.lt
  have := h.hB
  exact ⟨h.bel.trans (hb.mono (by omega)), (hb.block _ (by omega)).trans h.box, (hb.block _ (by omega)).trans h.res, h.po.below hb, h.hB⟩
theorem PW.lease {g k cb : Nat} (h : PW B w v0 (.slice (some ⟨g, 0, none⟩) L.length cb) S L y) (hk : k < L.length) (hg : g < w.heap.size) (s c r : Int) (f : Bool) :
    PW B w v0 (.slice (some ⟨g, 0, none⟩) L.length cb) S (L.set k (s, c, r, f)) ((((y.setCell ⟨g, k * 4, none⟩ (.int .i64 s)).setCell ⟨g, k * 4 + 1, none⟩ (.int .i64 c)).setCell ⟨g, k * 4 + 2, none⟩ (.int .i64 r)).setCell ⟨g, k * 4 + 3, none⟩ (.bool f)) := by
  have h1 := h.po.o1.own (by omega)
  have hBg : B ≤ g := by
    rcases row_val h1 with ⟨he, _⟩ | ⟨g', c', he, hB, _⟩
    · cases he
    · cases he; exact hB
  exact ⟨(((h.bel.setCell hBg _).setCell hBg _).setCell hBg _).setCell hBg _, heap_set (heap_set (heap_set (heap_set h.box (by omega) _) (by omega) _) (by omega) _) (by omega) _,
    heap_set (heap_set (heap_set (heap_set h.res (by omega) _) (by omega) _) (by omega) _) (by omega) _, h.po.setLease hk s c r f, h.hB⟩
/-- The result's cell written. -/
theorem PW.out (h : PW B w v0 v1 S L y) (u0 u1 : Value) :
    (((y.setCell ⟨w.heap.size + 2, 0, none⟩ u0).setCell ⟨w.heap.size + 2, 1, none⟩ u1).cell? ⟨w.heap.size + 2, 0, none⟩ = some u0) ∧ (((y.setCell ⟨w.heap.size + 2, 0, none⟩ u0).setCell ⟨w.heap.size + 2, 1, none⟩ u1).cell? ⟨w.heap.size + 2, 1, none⟩ = some u1) ∧
    Below B w ((y.setCell ⟨w.heap.size + 2, 0, none⟩ u0).setCell ⟨w.heap.size + 2, 1, none⟩ u1) ∧ PoO B ((y.setCell ⟨w.heap.size + 2, 0, none⟩ u0).setCell ⟨w.heap.size + 2, 1, none⟩ u1) v0 v1 S L := by
  have hB := h.hB
  have r0 := heap_setCell_same _ _ 0 _ _ u0 h.res
  have r1 := heap_setCell_same _ _ 1 _ _ u1 r0
  exact ⟨cell_of_row _ _ 0 _ _ _ r1, cell_of_row _ _ 1 _ _ _ r1, (h.bel.setCell (show B ≤ w.heap.size + 2 by omega) _).setCell (show B ≤ w.heap.size + 2 by omega) _, (h.po.setObj h.res).setObj r0⟩
/-- The leases have grown by one; their slice is stored in the box. -/
theorem PW.grown {v1' : Value} {n : Nat} (h : PW B w v0 v1 S L y) (hb : y'.heap[w.heap.size]? = y.heap[w.heap.size]?) (hr : y'.heap[w.heap.size + 2]? = y.heap[w.heap.size + 2]?) (hbel : Below B w y')
    (h0 : OR y' B 37 1 v0 S.length (S.map cx)) (h1 : OR y' B 52 4 v1' n (rowL (L ++ [(s, c, r, f)]))) (hn : n = (L ++ [(s, c, r, f)]).length) (hle : n ≤ 16) :
    PW B w v0 v1' S (L ++ [(s, c, r, f)]) (y'.setCell ⟨w.heap.size, 1, none⟩ v1') := by
  subst hn
  have hB := h.hB
  have hbox := hb.trans h.box
  exact ⟨hbel.setCell hB _, heap_setCell_same _ _ _ _ _ _ hbox, heap_set (hr.trans h.res) (by omega) _, PoO.setObj ⟨h0, h1, h.po.wf, h.po.le0, hle⟩ hbox, hB⟩
end
theorem row_apart {w : World} {B B' e e' sz sz' n n' : Nat} {v v' : Value} {xs xs' : List Value} (h : w.ownsRow B e sz v n xs) (h' : w.ownsRow B' e' sz' v' n' xs') (hne : e ≠ e') : v.ownBlock = none ∨ v.ownBlock ≠ v'.ownBlock := by
  cases hg : v'.ownBlock with
  | none =>
    cases hv : v.ownBlock with
    | none => exact .inl rfl
    | some k => exact .inr (by simp)
  | some g => exact .inr (row_ne_type h h' hne hg).symm
theorem lsCells_one (l : Ls) : ∀ u ∈ lsCells l, u.oneCell' = true := by
  intro u hu
  simp only [lsCells, List.mem_cons, List.not_mem_nil, or_false] at hu
  rcases hu with rfl | rfl | rfl | rfl <;> rfl
theorem pw_two {B : Nat} {w x W : World} {v0 v1 : Value} {S : List (Nat × Nat)} {L : List Ls} (h : PW B w v0 v1 S L x) (hk : Kp (w.heap.size + 2) x W) :
    W.cell? ⟨w.heap.size, 0, none⟩ = some v0 ∧ W.cell? ⟨w.heap.size, 1, none⟩ = some v1 := by
  have := h.lt
  have hb := (hk.block w.heap.size (by omega) (by omega)).trans h.box
  exact ⟨cell_of_row _ _ 0 _ _ _ hb, cell_of_row _ _ 1 _ _ _ hb⟩
/-- A lease that is appended lies in a block of its own. -/
theorem lit_src (x : World) (s c r : Int) (f : Bool) : SrcAt (x.alloc (.cells #[.int .i64 s, .int .i64 c, .int .i64 r, .bool f] 52)) 4 (some ⟨x.heap.size, 0, none⟩) 1 (lsCells (s, c, r, f)) := by
  refine ⟨rfl, .inr ⟨x.heap.size, 0, rfl, fun i hi => ?_⟩⟩
  have hh := heap_new x (.cells #[.int .i64 s, .int .i64 c, .int .i64 r, .bool f] 52)
  have hi4 : i < 4 := hi
  rw [Nat.zero_add]
  match i, hi4 with
  | 0, _ => exact cell_of_row _ _ 0 _ _ _ hh
  | 1, _ => exact cell_of_row _ _ 1 _ _ _ hh
  | 2, _ => exact cell_of_row _ _ 2 _ _ _ hh
  | 3, _ => exact cell_of_row _ _ 3 _ _ _ hh
set_option maxHeartbeats 4000000 in
theorem lput_s (B : Nat) (v0 v1 : Value) (S : List (Nat × Nat)) (L : List Ls) (s c r : Int) (f : Bool) (w : World) (hp : PoO B w v0 v1 S L) (hB : B ≤ w.heap.size) :
    Calls Try.prog 51 #[.agg #[v0, v1], lsV (s, c, r, f)] w (PoolR3 B w) := by
  obtain ⟨a, ca, rfl⟩ := hp.o0.open
  obtain ⟨b, cb, rfl⟩ := hp.o1.open
  have hle := hp.le1
  have HG := Lib.hid (fun g cap (h : Value.slice b L.length cb = .slice (some ⟨g, 0, none⟩) L.length cap) (hn : 0 < L.length) => OR.lt (h ▸ hp.o1) hn)
  obtain ⟨hU, hLb⟩ := PW.start w hp hB s c r f
  clear hp
  obtain ⟨i1, hii, hy0, hy1, hy2⟩ := info_parts lsInfo
  unfold lsV
  simp only [lsS, lsC, lsR, lsF]
  go_enter Try.func51, Try.ntmps51
  go_upto_region 1 with fail
  generalize ((w.alloc (.cells #[.slice a S.length ca, .slice b L.length cb] 25)).alloc (.cells #[.int .i64 s, .int .i64 c, .int .i64 r, .bool f] 52)).alloc (.cells #[.slice none 0 0, .slice none 0 0] 25) = x at *
  have HU := Lib.hid (show _ ∧ _ from ⟨hU, hLb⟩)
  obtain ⟨k0, k1, k2, k3, k8, k9, k10, k11⟩ := hU.cells
  obtain ⟨k4, k5, k6, k7⟩ := lcells hLb
  clear hU hLb
  go_wp2_with fail
  go_loop [11] (fun t => ∃ i : Nat, i ≤ L.length ∧ t = .int .i64 i) (fun t => L.length - (intOf t).toNat)
  case atStart => exact ⟨0, by omega, rfl⟩
  case round =>
    obtain ⟨i, hi, rfl⟩ := hrel
    by_cases hlt : (i : Int) < (L.length : Int)
    · have hiL : i < L.length := by omega
      obtain ⟨g, rfl, hBg, c0, c1, c2, c3⟩ := lease_cells HU.out.1.po.o1 hiL
      cases hf : lsF L[i] with
      | false =>
        rw [hf] at c3
        clear hf
        go_wp2_with fail
        go_round
        case rel => exact ⟨i + 1, by omega, by go_num⟩
        case measure => simp [intOf]; omega
      | true =>
        rw [hf] at c3
        clear hf
        have hfz := (HU.out.1.po.o1.own (by omega)).frozenAt
        have HN := Lib.hid (HU.out.1.lease hiL (HG.out g cb rfl (by omega)) s c r f)
        obtain ⟨m0, m1, -, -, m2, m3, m4, m5⟩ := HN.out.cells
        obtain ⟨e0, e1, hbF, ho⟩ := HN.out.out (.slice a S.length ca) (.slice (some ⟨g, 0, none⟩) L.length cb)
        have HF := Lib.hid (show _ ∧ _ from ⟨hbF, ho⟩)
        clear hbF ho
        go_wp2_with fail
        refine bodyPost_ret (by simp [results, Try.results51, go_sem, e0, e1]; try rfl) rfl ?_
        exact ⟨S, L.set i (s, c, r, f), a, ca, some ⟨g, 0, none⟩, cb, i, true, by rw [List.length_set], by rw [List.length_set]; exact HF.out.2, HF.out.1⟩
    · obtain rfl : i = L.length := by omega
      by_cases h16 : L.length = 16
      · obtain ⟨e0, e1, hbF, ho⟩ := HU.out.1.out (.slice none 0 0) (.slice none 0 0)
        have HF := Lib.hid (show _ ∧ _ from ⟨hbF, ho⟩)
        clear hbF ho
        go_wp2_with fail
        refine bodyPost_ret (by simp [results, Try.results51, go_sem, e0, e1]; try rfl) rfl ?_
        exact ⟨[], [], none, 0, none, 0, 0, false, rfl, PoO.nil _ _, HF.out.1⟩
      · have hl16 : L.length + 1 ≤ 16 := by omega
        have hnl : (L ++ [((s, c, r, f) : Ls)]).length = L.length + 1 := by simp
        have hrl : rowL (L ++ [(s, c, r, f)]) = rowL L ++ lsCells (s, c, r, f) := by rw [rowL_append]; simp [rowL]
        have hx2 := HU.out.1.lt
        have hBx : B ≤ x.heap.size := by omega
        have HL := Lib.hid (show _ ∧ _ from ⟨hnl, hrl⟩)
        clear hnl hrl
        rcases HU.out.1.po.o1 with ⟨b', he, hL0, -⟩ | hown
        · injection he with eb _ ec
          subst eb ec
          go_wp2_with (at_builtin; refine wpList_append_or rfl _ _ 23 rfl 52 i1 (lsV (0, 0, 0, false)) 4 32 Try.underlying23 hii hy0 hy1 hy2 rfl b' _ 1 1 (lsCells (s, c, r, f)) (by first | rfl | (show Value.slice _ L.length _ = _; rw [hL0])) rfl ?c1 ?c2 B (lit_src x s c r f) ?c3 ?_)
          case c1 => unfold maxLen; omega
          case c3 => first | omega | (simp; omega)
          intro a'' cap' w' hO hb
          have hL1 : L = [] := List.eq_nil_of_length_eq_zero hL0
          have hb2 : Below x.heap.size x w' := (bel_one x (.cells #[.int .i64 s, .int .i64 c, .int .i64 r, .bool f] 52)).trans (hb.mono (by omega))
          have hbx : w'.heap[w.heap.size]? = x.heap[w.heap.size]? := hb2.block _ (by omega)
          have hN := HU.out.1.grown (s := s) (c := c) (r := r) (f := f) (n := 1) hbx (hb2.block _ (by omega)) (HU.out.1.keep hb2).bel (HU.out.1.po.o0.below hb2) (by rw [hL1]; exact hO) (by rw [hL1]; rfl) (by omega)
          clear hb2
          clear hO hb
          have hbox := hbx.trans HU.out.1.box
          have f0 := cell_of_row _ _ 1 _ _ _ hbox
          have f1 := frozen_of_row _ _ 1 _ _ hbox
          simp only [List.getElem?_toArray] at f0
          have HN := Lib.hid hN
          obtain ⟨m0, m1, -, -, m2, m3, m4, m5⟩ := hN.cells
          clear hN hbox hbx k0 k1 k2 k3 k4 k5 k6 k7 k8 k9 k10 k11
          go_upto_region 11 with fail
          clear f0 f1
          have HK := Lib.hid (fun W (h : Kp (w.heap.size + 2) (w'.setCell ⟨w.heap.size, 1, none⟩ (.slice (some a'') 1 cap')) W) => pw_two HN.out h)
          generalize w'.setCell ⟨w.heap.size, 1, none⟩ (.slice (some a'') 1 cap') = y at *
          go_region_held_law (fun w' => w'.cell? ⟨w.heap.size, 0, none⟩ = some (.slice a S.length ca) ∧ w'.cell? ⟨w.heap.size, 1, none⟩ = some (.slice (some a'') 1 cap'))
            (first
              | exact HK.out _ (Kp.refl _ _).drew
              | exact HK.out _ (((Kp.refl _ _).drew.setCell _).setCell _)
              | exact HK.out _ (((Kp.refl _ _).setCell _).setCell _).drew)
            (fail)
          all_goals
            obtain ⟨e0, e1, hbF, ho⟩ := HN.out.out (.slice a S.length ca) (.slice (some a'') 1 cap')
            have HF := Lib.hid (show _ ∧ _ from ⟨hbF, ho⟩)
            clear hbF ho
            go_wp2_with fail
            refine bodyPost_ret (by simp [results, Try.results51, go_sem, e0, e1]; try rfl) rfl ?_
            refine ⟨S, L ++ [(s, c, r, f)], a, ca, _, cap', _, true, by rw [HL.out.1, hL0], ?_, HF.out.1.drew⟩
            rw [HL.out.1]
            have ho := HF.out.2.below ((Below.refl _ _).drew)
            rw [hL0]; exact ho
        · have HO := Lib.hid hown
          clear hown
          go_wp2_with (at_builtin; refine wpList_append_own_at _ rfl _ _ 23 rfl B 52 i1 (lsV (0, 0, 0, false)) 4 32 Try.underlying23 hii hy0 hy1 hy2 rfl (by decide) _ _ _ rfl (World.ownsRow.alloc HO.out _) ⟨x.heap.size, 0, none⟩ 1 1 (lsCells (s, c, r, f)) rfl rfl ?d1 (lsCells_one _) ?d3 ?d4 ?d5 ?_)
          case d1 =>
            intro j u hj
            exact hj
          case d3 => unfold maxLen; omega
          case d4 => omega
          case d5 => first | omega | (simp; omega)
          intro v' w' hown' hgrow _ _
          obtain ⟨a', cap', rfl⟩ := OR.open (.inr hown')
          have hbx : w'.heap[w.heap.size]? = x.heap[w.heap.size]? := (hgrow.block _ (by simp; omega) (row_ne_obj HO.out HU.out.1.box (by decide))).trans (Below.heap_alloc _ _ _ (by omega))
          have hrx : w'.heap[w.heap.size + 2]? = x.heap[w.heap.size + 2]? := (hgrow.block _ (by simp; omega) (row_ne_obj HO.out HU.out.1.res (by decide))).trans (Below.heap_alloc _ _ _ (by omega))
          have hbl : Below B w w' := (HU.out.1.bel.alloc hBx _).grown hgrow (by simp; omega) (fun j hj => by
            rcases row_val HO.out with ⟨he, -⟩ | ⟨g', c', he, hg', -⟩
            · rw [he] at hj; cases hj
            · rw [he] at hj; cases hj; exact hg')
          have hoo : OR w' B 37 1 (.slice a S.length ca) S.length (S.map cx) := by
            rcases HU.out.1.po.o0 with hq | hq
            · exact .inl hq
            · exact .inr (World.ownsRow.kept (World.ownsRow.alloc hq _) hgrow (row_apart hq HO.out (by decide)))
          have hN := HU.out.1.grown (s := s) (c := c) (r := r) (f := f) (n := L.length + 1) hbx hrx hbl hoo (by rw [HL.out.2]; exact .inr hown') HL.out.1.symm hl16
          clear hown' hgrow hrx hbl hoo
          have hbox := hbx.trans HU.out.1.box
          have f0 := cell_of_row _ _ 1 _ _ _ hbox
          have f1 := frozen_of_row _ _ 1 _ _ hbox
          simp only [List.getElem?_toArray] at f0
          have HN := Lib.hid hN
          obtain ⟨m0, m1, -, -, m2, m3, m4, m5⟩ := hN.cells
          clear hN hbox hbx k0 k1 k2 k3 k4 k5 k6 k7 k8 k9 k10 k11
          go_upto_region 11 with fail
          clear f0 f1
          have HK := Lib.hid (fun W (h : Kp (w.heap.size + 2) (w'.setCell ⟨w.heap.size, 1, none⟩ (.slice a' (L.length + 1) cap')) W) => pw_two HN.out h)
          generalize w'.setCell ⟨w.heap.size, 1, none⟩ (.slice a' (L.length + 1) cap') = y at *
          go_region_held_law (fun w' => w'.cell? ⟨w.heap.size, 0, none⟩ = some (.slice a S.length ca) ∧ w'.cell? ⟨w.heap.size, 1, none⟩ = some (.slice a' (L.length + 1) cap'))
            (first
              | exact HK.out _ (Kp.refl _ _).drew
              | exact HK.out _ (((Kp.refl _ _).drew.setCell _).setCell _)
              | exact HK.out _ (((Kp.refl _ _).setCell _).setCell _).drew)
            (fail)
          all_goals
            obtain ⟨e0, e1, hbF, ho⟩ := HN.out.out (.slice a S.length ca) (.slice a' (L.length + 1) cap')
            have HF := Lib.hid (show _ ∧ _ from ⟨hbF, ho⟩)
            clear hbF ho
            go_wp2_with fail
            refine bodyPost_ret (by simp [results, Try.results51, go_sem, e0, e1]; try rfl) rfl ?_
            refine ⟨S, L ++ [(s, c, r, f)], a, ca, _, cap', _, true, by rw [HL.out.1], ?_, HF.out.1.drew⟩
            rw [HL.out.1]
            have ho := HF.out.2.below ((Below.refl _ _).drew)
            exact ho
end Go.Proofs.Ytmfgffgfggkgcaa
