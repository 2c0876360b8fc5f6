/-
  The copy of a table, of the reference.
-/
import Derived.Test.YtolflcjaglgphaaCopy
import Derived.Test.YtolflcjaglgphaaEmp
import Derived.Deep.RegionHeldLaw
namespace Go.Proofs.Ytolflcjaglgphaa
open Go.RowKit
theorem bel_a1 (x : World) (A : Obj) : Below x.heap.size x (x.alloc A).drew := ((Below.refl _ _).alloc (Nat.le_refl _) _).drew
theorem bel_a2 (x : World) (A B : Obj) : Below x.heap.size x ((x.alloc A).alloc B).drew := (((Below.refl _ _).alloc (Nat.le_refl _) _).alloc (by simp) _).drew
theorem bel_go {x W w' : World} (h : Below x.heap.size x W) (g : Below W.heap.size W w') : Below x.heap.size x w' := h.trans (g.mono h.size)
theorem bel_al {x W : World} (h : Below x.heap.size x W) (o : Obj) : Below x.heap.size x (W.alloc o) := h.alloc h.size _
theorem slat_own' {w : World} {base e n cap : Nat} {a : Option Addr} {xs : List Value} (h : w.ownsRow base e 1 (.slice a n cap) n xs) : SlAt w a n xs := by
  obtain ⟨_, _, he, hs⟩ := own_slat h
  cases he
  exact hs
theorem bel_one (w : World) (o : Obj) : Below w.heap.size w (w.alloc o) := (Below.refl _ _).alloc (Nat.le_refl _) _
theorem cs_kp {w x W : World} {a b : Option Addr} {n m ca cb b1 b2 : Nat} {ps : List (Nat × Nat)} {ls : List Int} (h : CS w a b n m ca cb b1 b2 ps ls x) (hk : Kp (w.heap.size + 1) x W) :
    W.cell? ⟨w.heap.size, 0, none⟩ = some (.slice a n ca) ∧ W.cell? ⟨w.heap.size, 1, none⟩ = some (.slice b m cb) := by
  have hs : w.heap.size < x.heap.size := by have := (Array.getElem?_eq_some_iff.1 h.hp).1; omega
  have hb := hk.block w.heap.size hs (by omega)
  exact ⟨(World.cell?_of_block (w := x) (a := ⟨w.heap.size, 0, none⟩) hb).trans h.c0, (World.cell?_of_block (w := x) (a := ⟨w.heap.size, 1, none⟩) hb).trans h.c1⟩
set_option maxHeartbeats 4000000 in
theorem copyTable_s1 (b1 b2 : Nat) (a : Option Addr) (ca : Nat) (b : Option Addr) (cb : Nat) (n : Nat) (ps : List (Nat × Nat)) (ls : List Int) (w : World) (hpos : 0 < n) (hn : n ≤ 1048576) (h0 : w.ownsRow b1 33 1 (.slice a n ca) n (ps.map cx)) (h1 : w.ownsRow b2 3 1 (.slice b n cb) n (ints ls)) :
    Calls Try.prog 46 #[.agg #[.slice a n ca, .slice b n cb]] w (CopyTab n n ps ls w) := by
  go_enter Try.func46, Try.ntmps46
  go_upto_region 1 with fail
  have hS := CS.start h0 h1
  clear h0 h1
  generalize (w.alloc (Obj.cells #[Value.slice a n ca, Value.slice b n cb] 25)).alloc (Obj.cells #[Value.slice none 0 0, Value.slice none 0 0] 25) = x at *
  obtain ⟨k0, k1, k2, k3, k4, k5⟩ := hS.facts
  have HS := Lib.hid hS
  clear hS
  obtain ⟨i0, hic, hz0, hz1, hz2⟩ := info_parts cxInfo
  obtain ⟨i1, hii, hy0, hy1, hy2⟩ := info_parts intInfo
  have hx : w.heap.size + 1 < x.heap.size := (Array.getElem?_eq_some_iff.1 HS.out.hp).1
  have hxb : w.heap.size ≤ x.heap.size := by omega
  have S0 : ∀ W, Below x.heap.size x W → SlAt W a n (ps.map cx) := fun W h => (slat_own' HS.out.own0).below h
  have S1 : ∀ W, Below x.heap.size x W → SlAt W b n (ints ls) := fun W h => (slat_own' HS.out.own1).below h
  have HSS := Lib.hid (show _ ∧ _ from ⟨S0, S1⟩)
  have HK := Lib.hid (fun W (h : Kp (w.heap.size + 1) x W) => cs_kp HS.out h)
  clear S0 S1
  go_region_held_law (fun w' => w'.cell? ⟨w.heap.size, 0, none⟩ = some (.slice a n ca) ∧ w'.cell? ⟨w.heap.size, 1, none⟩ = some (.slice b n cb))
    (first
      | exact HK.out _ (Kp.refl _ _).drew
      | exact HK.out _ (Kp.of_below (bel_a1 _ _))
      | exact HK.out _ (Kp.of_below (bel_a2 _ _ _))
      | exact HK.out _ (((Kp.of_below H2.out.2.2.2).setCell _).setCell _)
      | exact HK.out _ (Kp.of_below H2.out.2.2.2)
      | exact HK.out _ ((Kp.of_below H1.out.2.2).alloc _)
      | exact HK.out _ (Kp.of_below H1.out.2.2))
    (first
    | ((refine step_append_fresh (by rfl) _ _ 22 (by rfl) 33 i0 (.complex .f32 0 0) 8 Try.underlying22 hic hz0 hz1 hz2 rfl _ a n ca (ps.map cx) (by rfl) (by rfl) hpos ?_ ?_ x.heap.size ?_ ?_ ?_); (unfold maxLen; omega); omega; (refine HSS.out.1 _ ?_; first | exact bel_a1 _ _ | exact bel_a2 _ _ _); (first | exact (bel_a1 x _).size | exact (bel_a2 x _ _).size);
       (intro g1 q1 w1 ho1 hq1; (first | have hb1 := bel_go (bel_a1 x _) hq1 | have hb1 := bel_go (bel_a2 x _ _) hq1); have H1 := Lib.hid (show _ ∧ _ ∧ _ from ⟨HS.out.keep hb1, ho1, hb1⟩); clear ho1 hq1 hb1))
    | ((refine step_append_fresh (by rfl) _ _ 23 (by rfl) 3 i1 (.int .i64 0) 8 Try.underlying23 hii hy0 hy1 hy2 rfl _ b n cb (ints ls) (by rfl) (by rfl) hpos ?_ ?_ x.heap.size ?_ ?_ ?_); (unfold maxLen; omega); omega; (refine HSS.out.2 _ ?_; first | exact H1.out.2.2 | exact bel_al H1.out.2.2 _); (first | exact H1.out.2.2.size | exact (bel_al H1.out.2.2 _).size);
       (intro g2 q2 w2 ho2 hq2; (first | have H2 := Lib.hid (show _ ∧ _ ∧ _ ∧ _ from ⟨HS.out.keep (bel_go H1.out.2.2 hq2), own_below H1.out.2.1 hq2, ho2, bel_go H1.out.2.2 hq2⟩) | have H2 := Lib.hid (show _ ∧ _ ∧ _ ∧ _ from ⟨HS.out.keep (bel_go (bel_al H1.out.2.2 _) hq2), own_below (World.ownsRow.alloc H1.out.2.1 _) hq2, ho2, bel_go (bel_al H1.out.2.2 _) hq2⟩)); clear ho2 hq2; obtain ⟨m0, m1, m2, m3, m4, m5⟩ := H2.out.1.facts)))
  all_goals
    have r0 := heap_setCell_same _ _ 0 _ _ (Value.slice (some ⟨g1, 0, none⟩) n q1) H2.out.1.hp
    have r1 := heap_setCell_same _ _ 1 _ _ (Value.slice (some ⟨g2, 0, none⟩) n q2) r0
    have e0 : ((w2.setCell ⟨w.heap.size + 1, 0, none⟩ (Value.slice (some ⟨g1, 0, none⟩) n q1)).setCell ⟨w.heap.size + 1, 1, none⟩ (Value.slice (some ⟨g2, 0, none⟩) n q2)).cell? ⟨w.heap.size + 1, 0, none⟩ = some (Value.slice (some ⟨g1, 0, none⟩) n q1) := cell_of_row _ _ 0 _ _ _ r1
    have e1 : ((w2.setCell ⟨w.heap.size + 1, 0, none⟩ (Value.slice (some ⟨g1, 0, none⟩) n q1)).setCell ⟨w.heap.size + 1, 1, none⟩ (Value.slice (some ⟨g2, 0, none⟩) n q2)).cell? ⟨w.heap.size + 1, 1, none⟩ = some (Value.slice (some ⟨g2, 0, none⟩) n q2) := cell_of_row _ _ 1 _ _ _ r1
    clear r0 r1
    go_wp2_with fail
    refine bodyPost_ret (by simp [results, Try.results46, go_sem, e0, e1]; try rfl) rfl ?_
    exact ⟨_, q1, _, q2, rfl, own_base (own_setCell (own_setCell H2.out.2.1 hx) hx) hxb, own_base (own_setCell (own_setCell H2.out.2.2.1 hx) hx) hxb, (H2.out.1.bel.setCell (Nat.le_succ _) _).setCell (Nat.le_succ _) _⟩
theorem own_e1 (x : World) (e : Nat) (B : Obj) : ((x.alloc (.cells #[] e)).alloc B).drew.ownsRow x.heap.size e 1 (.slice (some ⟨x.heap.size, 0, none⟩) 0 0) 0 [] :=
  own_below (World.ownsRow_lit x #[] 0 (Nat.le_refl _) (by decide) rfl) (bel_one _ B).drew
theorem own_e2 (x : World) (e : Nat) (A : Obj) : ((x.alloc A).alloc (.cells #[] e)).drew.ownsRow x.heap.size e 1 (.slice (some ⟨x.heap.size + 1, 0, none⟩) 0 0) 0 [] := by
  have := World.ownsRow_lit (base := x.heap.size) (e := e) (size := 1) (x.alloc A) #[] 0 (by simp) (by decide) rfl
  rw [World.size_alloc] at this
  exact own_below this ((Below.refl _ _).drew)
set_option maxHeartbeats 4000000 in
theorem copyTable_s0 (b1 b2 : Nat) (a : Option Addr) (ca : Nat) (b : Option Addr) (cb : Nat) (w : World) (h0 : w.ownsRow b1 33 1 (.slice a 0 ca) 0 (([] : List (Nat × Nat)).map cx)) (h1 : w.ownsRow b2 3 1 (.slice b 0 cb) 0 (ints [])) :
    Calls Try.prog 46 #[.agg #[.slice a 0 ca, .slice b 0 cb]] w (CopyTab 0 0 [] [] w) := by
  go_enter Try.func46, Try.ntmps46
  go_upto_region 1 with fail
  have hS := CS.start h0 h1
  clear h0 h1
  generalize (w.alloc (Obj.cells #[Value.slice a 0 ca, Value.slice b 0 cb] 25)).alloc (Obj.cells #[Value.slice none 0 0, Value.slice none 0 0] 25) = x at *
  obtain ⟨k0, k1, k2, k3, k4, k5⟩ := hS.facts
  have HS := Lib.hid hS
  clear hS
  obtain ⟨i0, hic, hz0, hz1, hz2⟩ := info_parts cxInfo
  obtain ⟨i1, hii, hy0, hy1, hy2⟩ := info_parts intInfo
  have hx : w.heap.size + 1 < x.heap.size := (Array.getElem?_eq_some_iff.1 HS.out.hp).1
  have hxb : w.heap.size ≤ x.heap.size := by omega
  have A1 : ∀ o, CS w a b 0 0 ca cb b1 b2 [] [] (x.alloc o) := fun o => HS.out.keep (bel_one _ _)
  have A2 : ∀ o o', CS w a b 0 0 ca cb b1 b2 [] [] ((x.alloc o).alloc o') := fun o o' => (A1 o).keep (bel_one _ _)
  have a0 := fun o => (A1 o).c0
  have a1 := fun o => (A1 o).c1
  have a2 := fun o o' => (A2 o o').c0
  have a3 := fun o o' => (A2 o o').c1
  have f2 := fun o o' => (A2 o o').facts
  have HA2 := Lib.hid A2
  clear A1 A2
  have HK := Lib.hid (fun W (h : Kp (w.heap.size + 1) x W) => cs_kp HS.out h)
  go_region_held_law (fun w' => w'.cell? ⟨w.heap.size, 0, none⟩ = some (.slice a 0 ca) ∧ w'.cell? ⟨w.heap.size, 1, none⟩ = some (.slice b 0 cb))
    (first
      | exact HK.out _ (Kp.refl _ _).drew
      | exact HK.out _ (Kp.of_below (bel_a1 _ _))
      | exact HK.out _ (Kp.of_below (bel_a2 _ _ _))
      | exact HK.out _ ((((Kp.of_below (bel_al (bel_one _ _) _)).setCell _).setCell _).drew))
    (first
    | (refine step_append_none (by rfl) _ _ 22 (by rfl) 33 i0 Try.underlying22 hic _ a ca (by rfl) (by rfl) ?_)
    | (refine step_append_none (by rfl) _ _ 23 (by rfl) 3 i1 Try.underlying23 hii _ b cb (by rfl) (by rfl) ?_))
  all_goals
    first
    | (have r0 := heap_setCell_same _ _ 0 _ _ (Value.slice (some ⟨x.heap.size, 0, none⟩) 0 0) (HA2.out (.cells #[] 33) (.cells #[] 3)).hp
       have r1 := heap_setCell_same _ _ 1 _ _ (Value.slice (some ⟨x.heap.size + 1, 0, none⟩) 0 0) r0
       have e0 : ((((x.alloc (.cells #[] 33)).alloc (.cells #[] 3)).setCell ⟨w.heap.size + 1, 0, none⟩ (Value.slice (some ⟨x.heap.size, 0, none⟩) 0 0)).setCell ⟨w.heap.size + 1, 1, none⟩ (Value.slice (some ⟨x.heap.size + 1, 0, none⟩) 0 0)).cell? ⟨w.heap.size + 1, 0, none⟩ = some (Value.slice (some ⟨x.heap.size, 0, none⟩) 0 0) := cell_of_row _ _ 0 _ _ _ r1
       have e1 : ((((x.alloc (.cells #[] 33)).alloc (.cells #[] 3)).setCell ⟨w.heap.size + 1, 0, none⟩ (Value.slice (some ⟨x.heap.size, 0, none⟩) 0 0)).setCell ⟨w.heap.size + 1, 1, none⟩ (Value.slice (some ⟨x.heap.size + 1, 0, none⟩) 0 0)).cell? ⟨w.heap.size + 1, 1, none⟩ = some (Value.slice (some ⟨x.heap.size + 1, 0, none⟩) 0 0) := cell_of_row _ _ 1 _ _ _ r1
       clear r0 r1
       go_wp2_with fail
       refine bodyPost_ret (by simp [results, Try.results46, go_sem, e0, e1]; try rfl) rfl ?_
       exact ⟨_, _, _, _, rfl, own_base (own_setCell (own_setCell (own_e1 x 33 _) hx) hx) hxb, own_base (own_setCell (own_setCell (own_e2 x 3 _) hx) hx) hxb, (((HA2.out (.cells #[] 33) (.cells #[] 3)).bel.setCell (Nat.le_succ _) _).setCell (Nat.le_succ _) _).drew⟩)
    | (have r0 := heap_setCell_same _ _ 0 _ _ (Value.slice (some ⟨x.heap.size + 1, 0, none⟩) 0 0) (HA2.out (.cells #[] 3) (.cells #[] 33)).hp
       have r1 := heap_setCell_same _ _ 1 _ _ (Value.slice (some ⟨x.heap.size, 0, none⟩) 0 0) r0
       have e0 : ((((x.alloc (.cells #[] 3)).alloc (.cells #[] 33)).setCell ⟨w.heap.size + 1, 0, none⟩ (Value.slice (some ⟨x.heap.size + 1, 0, none⟩) 0 0)).setCell ⟨w.heap.size + 1, 1, none⟩ (Value.slice (some ⟨x.heap.size, 0, none⟩) 0 0)).cell? ⟨w.heap.size + 1, 0, none⟩ = some (Value.slice (some ⟨x.heap.size + 1, 0, none⟩) 0 0) := cell_of_row _ _ 0 _ _ _ r1
       have e1 : ((((x.alloc (.cells #[] 3)).alloc (.cells #[] 33)).setCell ⟨w.heap.size + 1, 0, none⟩ (Value.slice (some ⟨x.heap.size + 1, 0, none⟩) 0 0)).setCell ⟨w.heap.size + 1, 1, none⟩ (Value.slice (some ⟨x.heap.size, 0, none⟩) 0 0)).cell? ⟨w.heap.size + 1, 1, none⟩ = some (Value.slice (some ⟨x.heap.size, 0, none⟩) 0 0) := cell_of_row _ _ 1 _ _ _ r1
       clear r0 r1
       go_wp2_with fail
       refine bodyPost_ret (by simp [results, Try.results46, go_sem, e0, e1]; try rfl) rfl ?_
       exact ⟨_, _, _, _, rfl, own_base (own_setCell (own_setCell (own_e2 x 33 _) hx) hx) hxb, own_base (own_setCell (own_setCell (own_e1 x 3 _) hx) hx) hxb, (((HA2.out (.cells #[] 3) (.cells #[] 33)).bel.setCell (Nat.le_succ _) _).setCell (Nat.le_succ _) _).drew⟩)
theorem copyTable_s (b1 b2 : Nat) (v0 v1 : Value) (n : Nat) (ps : List (Nat × Nat)) (ls : List Int) (w : World) (hn : n ≤ 1048576) (h0 : w.ownsRow b1 33 1 v0 n (ps.map cx)) (h1 : w.ownsRow b2 3 1 v1 n (ints ls)) :
    Calls Try.prog 46 #[.agg #[v0, v1]] w (CopyTab n n ps ls w) := by
  obtain ⟨a, ca, rfl⟩ := owns_form h0
  obtain ⟨b, cb, rfl⟩ := owns_form h1
  by_cases hp : 0 < n
  · exact copyTable_s1 b1 b2 a ca b cb n ps ls w hp hn h0 h1
  · obtain rfl : n = 0 := by omega
    obtain rfl : ps = [] := List.eq_nil_of_length_eq_zero (by simpa using h0.1)
    obtain rfl : ls = [] := List.eq_nil_of_length_eq_zero (by simpa [ints] using h1.1)
    exact copyTable_s0 b1 b2 a ca b cb w h0 h1
end Go.Proofs.Ytolflcjaglgphaa
