/-
  PutPoint of the program.
-/
import Derived.Test.YtolflcjaglgphaaPut
import Derived.Test.YtolflcjaglgphaaSplit
namespace Go.Proofs.Ytolflcjaglgphaa
open Go.RowKit
/-- Between the appends and the stores: the variable as it was, the rows as they are. -/
structure PM (w : World) (v0 v1 : Value) (D B : Nat) (r0 r1 : Value) (u0 u1 : Value) (n0 n1 : Nat) (qs : List (Nat × Nat)) (ms : List Int) (y : World) : Prop where
  arg : PS w v0 v1 y
  row : y.heap[D]? = some (.cells #[r0, r1] 25 (0, 0))
  o0 : y.ownsRow B 33 1 u0 n0 (qs.map cx)
  o1 : y.ownsRow B 3 1 u1 n1 (ints ms)
  hB : w.heap.size + 1 < B
  hD : w.heap.size + 1 < D
  le : B ≤ y.heap.size
section
variable {w : World} {v0 v1 : Value} {D B : Nat} {r0 r1 u0 u1 : Value} {n0 n1 : Nat} {qs : List (Nat × Nat)} {ms : List Int} {y y' : World}
theorem PV.mid (h : PV w v0 v1 D B u0 u1 n0 n1 qs ms y) : PM w v0 v1 D B u0 u1 u0 u1 n0 n1 qs ms y := ⟨h.arg, h.row, h.o0, h.o1, h.hB, h.hD, h.le⟩
theorem PM.keep (h : PM w v0 v1 D B r0 r1 u0 u1 n0 n1 qs ms y) (hb : Below y.heap.size y y') : PM w v0 v1 D B r0 r1 u0 u1 n0 n1 qs ms y' :=
  ⟨h.arg.keep hb, (hb.block _ (Array.getElem?_eq_some_iff.1 h.row).1).trans h.row, own_below h.o0 hb, own_below h.o1 hb, h.hB, h.hD, Nat.le_trans h.le hb.size⟩
theorem PM.drew (h : PM w v0 v1 D B r0 r1 u0 u1 n0 n1 qs ms y) : PM w v0 v1 D B r0 r1 u0 u1 n0 n1 qs ms y.drew := h.keep ((Below.refl _ _).drew)
theorem PM.app0 {u0' : Value} {n0' : Nat} {qs' : List (Nat × Nat)} (h : PM w v0 v1 D B r0 r1 u0 u1 n0 n1 qs ms y) (ho : y'.ownsRow B 33 1 u0' n0' (qs'.map cx)) (hg : y.grownBy y' u0.ownBlock) : PM w v0 v1 D B r0 r1 u0' u1 n0' n1 qs' ms y' :=
  ⟨h.arg.grown h.o0 h.hB hg, (hg.block _ (Array.getElem?_eq_some_iff.1 h.row).1 (own_ne h.o0 h.row (by decide))).trans h.row, ho, h.o1.kept hg (own_apart h.o1 h.o0 (by decide)), h.hB, h.hD, Nat.le_trans h.le hg.size⟩
theorem PM.app1 {u1' : Value} {n1' : Nat} {ms' : List Int} (h : PM w v0 v1 D B r0 r1 u0 u1 n0 n1 qs ms y) (ho : y'.ownsRow B 3 1 u1' n1' (ints ms')) (hg : y.grownBy y' u1.ownBlock) : PM w v0 v1 D B r0 r1 u0 u1' n0 n1' qs ms' y' :=
  ⟨h.arg.grown h.o1 h.hB hg, (hg.block _ (Array.getElem?_eq_some_iff.1 h.row).1 (own_ne h.o1 h.row (by decide))).trans h.row, h.o0.kept hg (own_apart h.o0 h.o1 (by decide)), ho, h.hB, h.hD, Nat.le_trans h.le hg.size⟩
theorem PM.held (h : PM w v0 v1 D B r0 r1 u0 u1 n0 n1 qs ms y) : y.cell? ⟨D, 0, none⟩ = some r0 ∧ y.cell? ⟨D, 1, none⟩ = some r1 := ⟨cell_of_row _ _ 0 _ _ _ h.row, cell_of_row _ _ 1 _ _ _ h.row⟩
theorem PM.fin (h : PM w v0 v1 D B r0 r1 u0 u1 n0 n1 qs ms y) : PV w v0 v1 D B u0 u1 n0 n1 qs ms ((y.setCell ⟨D, 0, none⟩ u0).setCell ⟨D, 1, none⟩ u1) := by
  have hD := h.hD
  have q0 := heap_setCell_same _ _ 0 _ _ u0 h.row
  have q1 := heap_setCell_same _ _ 1 _ _ u1 q0
  refine ⟨(h.arg.kp ((Kp.refl D y).setCell _) h.hD).kp ((Kp.refl D _).setCell _) h.hD, q1, own_set (own_set h.o0 h.row (by decide)) q0 (by decide), own_set (own_set h.o1 h.row (by decide)) q0 (by decide), h.hB, h.hD, ?_⟩
  have := h.le
  simpa using this
theorem PM.stores (h : PM w v0 v1 D B r0 r1 u0 u1 n0 n1 qs ms y) : y.cell? ⟨D, 0, none⟩ = some r0 ∧ y.cell? ⟨D, 1, none⟩ = some r1 ∧ y.frozen? ⟨D, 0, none⟩ = false ∧ y.frozen? ⟨D, 1, none⟩ = false :=
  ⟨cell_of_row _ _ 0 _ _ _ h.row, cell_of_row _ _ 1 _ _ _ h.row, frozen_of_row _ _ 0 _ _ h.row, frozen_of_row _ _ 1 _ _ h.row⟩
theorem lit_here (x : World) (e : Nat) (v : Value) : (x.alloc (.cells #[v] e)).ownsRow x.heap.size e 1 (.slice (some ⟨x.heap.size, 0, none⟩) 1 1) 1 [v] :=
  World.ownsRow_lit x #[v] 1 (Nat.le_refl _) (by decide) rfl
theorem lit_next (x : World) (o : Obj) (e : Nat) (v : Value) : ((x.alloc o).alloc (.cells #[v] e)).ownsRow x.heap.size e 1 (.slice (some ⟨x.heap.size + 1, 0, none⟩) 1 1) 1 [v] := by
  have := World.ownsRow_lit (base := x.heap.size) (e := e) (size := 1) (x.alloc o) #[v] 1 (by simp) (by decide) rfl
  rw [World.size_alloc] at this
  exact this
end
set_option maxHeartbeats 4000000 in
theorem put_i (B : Nat) (v0 v1 : Value) (ps : List (Nat × Nat)) (ls : List Int) (z : Nat × Nat) (l : Int) (w : World) (ht : TabO B w v0 v1 ps ls) (hz : z.1 < 4294967296 ∧ z.2 < 4294967296) :
    Calls Try.prog 16 #[.agg #[v0, v1], cx z, .int .i64 l] w (TabRet (putP ps ls z l) w) := by
  obtain ⟨a, ca, rfl⟩ := owns_form ht.o0
  obtain ⟨b, cb, rfl⟩ := owns_form ht.o1
  have HT := Lib.hid ht
  clear ht
  obtain ⟨i0, hic, hz0, hz1, hz2⟩ := info_parts cxInfo
  obtain ⟨i1, hii, hy0, hy1, hy2⟩ := info_parts intInfo
  unfold cx
  go_enter Try.func16, Try.ntmps16
  go_wp2_with fail
  have hS := PS.start w (Value.slice a ps.length ca) (Value.slice b ps.length cb)
  generalize (w.alloc (Obj.cells #[Value.slice a ps.length ca, Value.slice b ps.length cb] 25)).alloc (Obj.cells #[Value.slice none 0 0, Value.slice none 0 0] 25) = x at *
  have HX := Lib.hid hS
  clear hS
  refine (isTable_i _ _ ps ls _ (HT.out.below HX.out.bel).tabIn).mono ?_
  rintro e y ⟨rfl, hby⟩
  have HY := Lib.hid (HX.out.keep hby)
  clear hby HX
  cases hok : isTab ps ls.length with
  | false =>
    obtain ⟨k0, k1, k2, k3, k4, k5⟩ := HY.out.cells
    obtain ⟨e0, e1, hbF⟩ := HY.out.stored (.slice none 0 0) (.slice none 0 0)
    have HB := Lib.hid hbF
    clear hbF
    go_wp2_with fail
    refine bodyPost_ret (by simp [results, Try.results16, go_sem, e0, e1]; try rfl) rfl ?_
    rw [putP_bad hok]
    exact ⟨none, 0, none, 0, rfl, TabO.nil _ _, HB.out⟩
  | true =>
    obtain ⟨k0, k1, k2, k3, k4, k5⟩ := HY.out.cells
    go_wp2_with fail
    have h64 : ps.length ≤ 64 := (of_decide_eq_true hok).2.1
    refine (copyTable_i B B _ _ ps.length ps.length ps ls _ (by omega) (by omega) (HT.out.below HY.out.bel).o0 (HT.out.below HY.out.bel).o1).mono ?_
    rintro e z1 ⟨a1, c1, b1, c2, rfl, o0, o1, hbz⟩
    have HV := Lib.hid (PV.start HY.out hbz o0 o1)
    clear o0 o1 hbz k0 k1 k2 k3 k4 k5 HY
    obtain ⟨k0, k1, -⟩ := HV.out.arg.cells
    go_wp2_with fail
    generalize z1.alloc (.cells #[.slice a1 ps.length c1, .slice b1 ps.length c2] 25) = y2 at *
    generalize z1.heap.size = D at *
    clear k0 k1
    refine (place_any a1 ps.length c1 ps z _ (by omega) (slat_own' HV.out.o0)).mono ?_
    rintro e y3 ⟨rfl, hb3⟩
    have H3 := Lib.hid (HV.out.keep hb3)
    clear hb3 HV
    obtain ⟨m0, m1, m2, m3⟩ := H3.out.cells
    by_cases hi : 0 ≤ idxI ps z
    · have hbd := idx_bd ps z
      obtain ⟨j, hj⟩ : ∃ j : Nat, idxI ps z = j := ⟨(idxI ps z).toNat, by omega⟩
      have hP := Lib.hid (putP_set (l := l) hok hi)
      rw [hj] at hbd hi
      rw [hj]
      have hjn : (j : Int) < (ps.length : Int) := hbd.2
      obtain ⟨g, q, hs, hg⟩ := owns_some H3.out.o1 (by omega)
      obtain ⟨rfl, rfl⟩ : b1 = some ⟨g, 0, none⟩ ∧ c2 = q := by cases hs; exact ⟨rfl, rfl⟩
      clear hs
      have hcx : y3.cell? ⟨g, j, none⟩ = some (.int .i64 (ls.getD j 0)) := by
        rw [H3.out.o1.cellAt j (by omega)]
        unfold ints
        have hjl : j < ls.length := by have := HT.out.len; omega
        rw [List.getElem?_map, List.getD_eq_getElem?_getD, List.getElem?_eq_getElem hjl]; rfl
      have hf := H3.out.o1.frozenAt j
      have H4 := Lib.hid (H3.out.setLabel (j := j) (l := l))
      obtain ⟨n0, n1, -⟩ := H4.out.cells
      obtain ⟨-, -, p0, p1, p2, p3⟩ := H4.out.arg.cells
      obtain ⟨e0, e1, hbF⟩ := H4.out.arg.stored (.slice a1 ps.length c1) (.slice (some ⟨g, 0, none⟩) ps.length c2)
      clear hbF hbd
      go_wp2_with fail
      refine bodyPost_ret (by simp [results, Try.results16, go_sem, e0, e1]; try rfl) rfl ?_
      rw [hP.out, hj]
      exact H4.out.done rfl HT.out.wf (by omega)
    · have hlt : idxI ps z < 0 := by omega
      have HI := Lib.hid hi
      clear hi
      go_wp2_with fail
      refine wp_region_split 11 (by kernel_rfl) (by kernel_rfl) ?_
      simp only [List.take_succ_cons, List.take_zero, List.drop_succ_cons, List.drop_zero]
      refine wpAny_of_held (S := (fun w' => w'.cell? ⟨D, 0, none⟩ = some (Value.slice a1 ps.length c1) ∧ w'.cell? ⟨D, 1, none⟩ = some (Value.slice b1 ps.length c2))) _ _ _ _ ?_
      have hHeld := H3.out.mid.held
      refine wpAnyH_take (i := 0) (oi := { dst := some 28, op := Op.fieldAddr 25 (Operand.tmp 8) 0, type := 0, pos := "l02_points.go:71", after := #[], guard := none }) (v := ?_) rfl (by kernel_rfl) (by kernel_rfl) (by kernel_rfl) (fun _ _ _ h => h) (Or.inl ⟨by rfl, ?_⟩) (by assumption) ?_
      rotate_left
      · intro w hSw; (try dsimp only at hSw); go_simp; (try with_reducible rfl)
      simp only [Act.put, List.setIfInBounds_toArray, List.set_cons_zero, List.set_cons_succ]
      refine wpAnyH_take (i := 2) (oi := { dst := some 30, op := Op.move (Operand.tmp 1), type := 33, pos := "l02_points.go:71", after := #[], guard := none }) (v := ?_) rfl (by kernel_rfl) (by kernel_rfl) (by kernel_rfl) (fun _ _ _ h => h) (Or.inl ⟨by rfl, ?_⟩) (by assumption) ?_
      rotate_left
      · intro w hSw; (try dsimp only at hSw); go_simp; (try with_reducible rfl)
      simp only [Act.put, List.setIfInBounds_toArray, List.set_cons_zero, List.set_cons_succ]
      refine wpAnyH_take (i := 5) (oi := { dst := some 33, op := Op.fieldAddr 25 (Operand.tmp 8) 1, type := 0, pos := "l02_points.go:71", after := #[], guard := none }) (v := ?_) rfl (by kernel_rfl) (by kernel_rfl) (by kernel_rfl) (fun _ _ _ h => h) (Or.inl ⟨by rfl, ?_⟩) (by assumption) ?_
      rotate_left
      · intro w hSw; (try dsimp only at hSw); go_simp; (try with_reducible rfl)
      simp only [Act.put, List.setIfInBounds_toArray, List.set_cons_zero, List.set_cons_succ]
      refine wpAnyH_take (i := 7) (oi := { dst := some 35, op := Op.move (Operand.tmp 2), type := 3, pos := "l02_points.go:71", after := #[], guard := none }) (v := ?_) rfl (by kernel_rfl) (by kernel_rfl) (by kernel_rfl) (fun _ _ _ h => h) (Or.inl ⟨by rfl, ?_⟩) (by assumption) ?_
      rotate_left
      · intro w hSw; (try dsimp only at hSw); go_simp; (try with_reducible rfl)
      simp only [Act.put, List.setIfInBounds_toArray, List.set_cons_zero, List.set_cons_succ]
      refine wpAnyH_take (i := 1) (oi := { dst := some 29, op := Op.load 22 (Operand.tmp 28), type := 22, pos := "l02_points.go:71", after := #[{ on := 0, ground := Ground.data }], guard := none }) (v := ?_) rfl (by kernel_rfl) (by kernel_rfl) (by kernel_rfl) (fun _ _ _ h => h) (Or.inl ⟨by rfl, ?_⟩) (by assumption) ?_
      rotate_left
      · intro w hSw; (try dsimp only at hSw); go_simp; (try with_reducible rfl)
      simp only [Act.put, List.setIfInBounds_toArray, List.set_cons_zero, List.set_cons_succ]
      refine wpAnyH_take (i := 6) (oi := { dst := some 34, op := Op.load 23 (Operand.tmp 33), type := 23, pos := "l02_points.go:71", after := #[{ on := 5, ground := Ground.data }], guard := none }) (v := ?_) rfl (by kernel_rfl) (by kernel_rfl) (by kernel_rfl) (fun _ _ _ h => h) (Or.inl ⟨by rfl, ?_⟩) (by assumption) ?_
      rotate_left
      · intro w hSw; (try dsimp only at hSw); go_simp; (try with_reducible rfl)
      simp only [Act.put, List.setIfInBounds_toArray, List.set_cons_zero, List.set_cons_succ]
      refine wpAnyH_ready (rs := [3, 8]) (by kernel_rfl) (by simp) ?_
      refine AllReadyH.cons rfl (fun K hK => ?_) ?_
      · -- 3
        go_simp
        have M1 := Lib.hid (H3.out.mid.keep (bel_one _ (.cells #[.complex .f32 z.1 z.2] 33)))
        have L1 := Lib.hid (lit_here y3 33 (.complex .f32 z.1 z.2))
        refine hK.out _ _ (M1.out.held) (fun hHeld => ?_)
        clear hK K
        refine wpAnyH_ready (rs := [4, 8]) (by kernel_rfl) (by simp) ?_
        refine AllReadyH.cons rfl (fun K hK => ?_) ?_
        · -- 4
          have hsrc := own_below L1.out ((Below.refl _ _).drew)
          have h63 : ps.length + 1 ≤ maxLen := by unfold maxLen; omega
          have hby : (ps.length + 1) * 8 ≤ 140737488355328 := by omega
          refine step_append_row (by rfl) _ _ 22 (by rfl) y.heap.size 33 i0 (.complex .f32 0 0) 8 Try.underlying22 hic hz0 hz1 hz2 rfl _ ps.length (ps.map cx) (by rfl) M1.out.drew.o0 _ _ 1 [.complex .f32 z.1 z.2] (by rfl) hsrc (fun x hx => by rw [List.mem_singleton] at hx; subst hx; rfl) h63 hby M1.out.drew.le ?_
          clear hsrc
          intro a5 c5 w1 ho1 hg1
          have MA := Lib.hid (M1.out.drew.app0 (qs' := ps ++ [z]) (by rw [cx_snoc]; exact ho1) hg1)
          clear ho1 hg1
          refine hK.out _ _ (MA.out.held) (fun hHeld => ?_)
          clear hK K
          refine wpAnyH_take (i := 10) (oi := { dst := some 38, op := Op.fieldAddr 25 (Operand.tmp 8) 0, type := 0, pos := "l02_points.go:71", after := #[{ on := 0, ground := Ground.phase }, { on := 1, ground := Ground.phase }, { on := 2, ground := Ground.phase }, { on := 3, ground := Ground.phase }, { on := 4, ground := Ground.phase }, { on := 5, ground := Ground.phase }, { on := 6, ground := Ground.phase }, { on := 7, ground := Ground.textOnly Departure.lateStores }, { on := 8, ground := Ground.textOnly Departure.lateStores }, { on := 9, ground := Ground.textOnly Departure.lateStoresUnsure }], guard := none }) (v := ?_) rfl (by kernel_rfl) (by kernel_rfl) (by kernel_rfl) (fun _ _ _ h => h) (Or.inl ⟨by rfl, ?_⟩) (by assumption) ?_
          rotate_left
          · intro w hSw; (try dsimp only at hSw); go_simp; (try with_reducible rfl)
          simp only [Act.put, List.setIfInBounds_toArray]
          refine wpAnyH_ready (rs := [8]) (by kernel_rfl) (by simp) ?_
          refine AllReadyH.cons rfl (fun K hK => ?_) ?_
          · -- 8
            go_simp
            have M2 := Lib.hid (MA.out.keep (bel_one _ (.cells #[.int .i64 l] 3)))
            have L2 := Lib.hid (lit_here w1 3 (.int .i64 l))
            refine hK.out _ _ (M2.out.held) (fun hHeld => ?_)
            clear hK K
            refine wpAnyH_ready (rs := [9]) (by kernel_rfl) (by simp) ?_
            refine AllReadyH.cons rfl (fun K hK => ?_) ?_
            · -- 9
              have hsrc := L2.out
              have h63 : ps.length + 1 ≤ maxLen := by unfold maxLen; omega
              have hby : (ps.length + 1) * 8 ≤ 140737488355328 := by omega
              refine step_append_row (by rfl) _ _ 23 (by rfl) y.heap.size 3 i1 (.int .i64 0) 8 Try.underlying23 hii hy0 hy1 hy2 rfl _ ps.length (ints ls) (by rfl) M2.out.o1 _ _ 1 [.int .i64 l] (by rfl) hsrc (fun x hx => by rw [List.mem_singleton] at hx; subst hx; rfl) h63 hby M2.out.le ?_
              clear hsrc
              intro a6 c6 w2 ho2 hg2
              have MB := Lib.hid (M2.out.app1 (ms' := ls ++ [l]) (by rw [ints_snoc]; exact ho2) hg2)
              clear ho2 hg2
              refine hK.out _ _ (MB.out.held) (fun hHeld => ?_)
              clear hK K
              refine wpAnyH_done (by kernel_rfl) ?_ _
              change wpList _ _ _ _ _ _
              obtain ⟨f0, f1, f2, f3⟩ := MB.out.stores
              have H5 := Lib.hid MB.out.fin
              obtain ⟨q0, q1, q2, q3⟩ := H5.out.cells
              clear MB
              go_wp2_with fail
              have hwf : ∀ p ∈ ps ++ [z], p.1 < 4294967296 ∧ p.2 < 4294967296 := fun p hp => by
                rcases List.mem_append.1 hp with h | h
                · exact HT.out.wf p h
                · rw [List.mem_singleton] at h; subst h; exact hz
              have HW := Lib.hid hwf
              clear hwf q0 q1 q2 q3 f0 f1 f2 f3
              refine (isTable_i _ _ (ps ++ [z]) (ls ++ [l]) _ (tabIn_own H5.out.o0 H5.out.o1 (by omega) (by omega) HW.out)).mono ?_
              rintro e y6 ⟨rfl, hb6⟩
              have H6 := Lib.hid (H5.out.keep hb6)
              clear hb6 H5
              obtain ⟨n0, n1, -⟩ := H6.out.cells
              obtain ⟨-, -, p0, p1, p2, p3⟩ := H6.out.arg.cells
              cases hok2 : isTab (ps ++ [z]) (ls ++ [l]).length with
              | true =>
                obtain ⟨e0, e1, hbF⟩ := H6.out.arg.stored (.slice a5 (ps.length + 1) c5) (.slice a6 (ps.length + 1) c6)
                clear hbF
                go_wp2_with fail
                refine bodyPost_ret (by simp [results, Try.results16, go_sem, e0, e1]; try rfl) rfl ?_
                rw [putP_new hok (by have := HI.out; omega) hok2]
                exact H6.out.done (by simp) HW.out (by omega)
              | false =>
                obtain ⟨e0, e1, hbF⟩ := H6.out.arg.stored (.slice none 0 0) (.slice none 0 0)
                have HF := Lib.hid hbF
                clear hbF
                go_wp2_with fail
                refine bodyPost_ret (by simp [results, Try.results16, go_sem, e0, e1]; try rfl) rfl ?_
                rw [putP_full hok (by have := HI.out; omega) hok2]
                exact ⟨none, 0, none, 0, rfl, TabO.nil _ _, HF.out⟩
            exact AllReadyH.nil
          exact AllReadyH.nil
        refine AllReadyH.cons rfl (fun K hK => ?_) ?_
        · -- 8
          go_simp
          have M2 := Lib.hid (M1.out.keep (bel_one _ (.cells #[.int .i64 l] 3)))
          have L2 := Lib.hid (lit_next y3 (.cells #[.complex .f32 z.1 z.2] 33) 3 (.int .i64 l))
          refine hK.out _ _ (M2.out.held) (fun hHeld => ?_)
          clear hK K
          refine wpAnyH_ready (rs := [4]) (by kernel_rfl) (by simp) ?_
          refine AllReadyH.cons rfl (fun K hK => ?_) ?_
          · -- 4
            have hsrc := own_below L1.out (bel_one _ (.cells #[.int .i64 l] 3)).drew
            have h63 : ps.length + 1 ≤ maxLen := by unfold maxLen; omega
            have hby : (ps.length + 1) * 8 ≤ 140737488355328 := by omega
            refine step_append_row (by rfl) _ _ 22 (by rfl) y.heap.size 33 i0 (.complex .f32 0 0) 8 Try.underlying22 hic hz0 hz1 hz2 rfl _ ps.length (ps.map cx) (by rfl) M2.out.drew.o0 _ _ 1 [.complex .f32 z.1 z.2] (by rfl) hsrc (fun x hx => by rw [List.mem_singleton] at hx; subst hx; rfl) h63 hby M2.out.drew.le ?_
            clear hsrc
            intro a5 c5 w1 ho1 hg1
            have MA := Lib.hid (M2.out.drew.app0 (qs' := ps ++ [z]) (by rw [cx_snoc]; exact ho1) hg1)
            have LL := Lib.hid (World.ownsRow.kept (own_below L2.out ((Below.refl _ _).drew)) hg1 (own_apart (own_below L2.out ((Below.refl _ _).drew)) M2.out.drew.o0 (by decide)))
            clear ho1 hg1
            refine hK.out _ _ (MA.out.held) (fun hHeld => ?_)
            clear hK K
            refine wpAnyH_take (i := 10) (oi := { dst := some 38, op := Op.fieldAddr 25 (Operand.tmp 8) 0, type := 0, pos := "l02_points.go:71", after := #[{ on := 0, ground := Ground.phase }, { on := 1, ground := Ground.phase }, { on := 2, ground := Ground.phase }, { on := 3, ground := Ground.phase }, { on := 4, ground := Ground.phase }, { on := 5, ground := Ground.phase }, { on := 6, ground := Ground.phase }, { on := 7, ground := Ground.textOnly Departure.lateStores }, { on := 8, ground := Ground.textOnly Departure.lateStores }, { on := 9, ground := Ground.textOnly Departure.lateStoresUnsure }], guard := none }) (v := ?_) rfl (by kernel_rfl) (by kernel_rfl) (by kernel_rfl) (fun _ _ _ h => h) (Or.inl ⟨by rfl, ?_⟩) (by assumption) ?_
            rotate_left
            · intro w hSw; (try dsimp only at hSw); go_simp; (try with_reducible rfl)
            simp only [Act.put, List.setIfInBounds_toArray]
            refine wpAnyH_ready (rs := [9]) (by kernel_rfl) (by simp) ?_
            refine AllReadyH.cons rfl (fun K hK => ?_) ?_
            · -- 9
              have hsrc := LL.out
              have h63 : ps.length + 1 ≤ maxLen := by unfold maxLen; omega
              have hby : (ps.length + 1) * 8 ≤ 140737488355328 := by omega
              refine step_append_row (by rfl) _ _ 23 (by rfl) y.heap.size 3 i1 (.int .i64 0) 8 Try.underlying23 hii hy0 hy1 hy2 rfl _ ps.length (ints ls) (by rfl) MA.out.o1 _ _ 1 [.int .i64 l] (by rfl) hsrc (fun x hx => by rw [List.mem_singleton] at hx; subst hx; rfl) h63 hby MA.out.le ?_
              clear hsrc
              intro a6 c6 w2 ho2 hg2
              have MB := Lib.hid (MA.out.app1 (ms' := ls ++ [l]) (by rw [ints_snoc]; exact ho2) hg2)
              clear ho2 hg2
              refine hK.out _ _ (MB.out.held) (fun hHeld => ?_)
              clear hK K
              refine wpAnyH_done (by kernel_rfl) ?_ _
              change wpList _ _ _ _ _ _
              obtain ⟨f0, f1, f2, f3⟩ := MB.out.stores
              have H5 := Lib.hid MB.out.fin
              obtain ⟨q0, q1, q2, q3⟩ := H5.out.cells
              clear MB
              go_wp2_with fail
              have hwf : ∀ p ∈ ps ++ [z], p.1 < 4294967296 ∧ p.2 < 4294967296 := fun p hp => by
                rcases List.mem_append.1 hp with h | h
                · exact HT.out.wf p h
                · rw [List.mem_singleton] at h; subst h; exact hz
              have HW := Lib.hid hwf
              clear hwf q0 q1 q2 q3 f0 f1 f2 f3
              refine (isTable_i _ _ (ps ++ [z]) (ls ++ [l]) _ (tabIn_own H5.out.o0 H5.out.o1 (by omega) (by omega) HW.out)).mono ?_
              rintro e y6 ⟨rfl, hb6⟩
              have H6 := Lib.hid (H5.out.keep hb6)
              clear hb6 H5
              obtain ⟨n0, n1, -⟩ := H6.out.cells
              obtain ⟨-, -, p0, p1, p2, p3⟩ := H6.out.arg.cells
              cases hok2 : isTab (ps ++ [z]) (ls ++ [l]).length with
              | true =>
                obtain ⟨e0, e1, hbF⟩ := H6.out.arg.stored (.slice a5 (ps.length + 1) c5) (.slice a6 (ps.length + 1) c6)
                clear hbF
                go_wp2_with fail
                refine bodyPost_ret (by simp [results, Try.results16, go_sem, e0, e1]; try rfl) rfl ?_
                rw [putP_new hok (by have := HI.out; omega) hok2]
                exact H6.out.done (by simp) HW.out (by omega)
              | false =>
                obtain ⟨e0, e1, hbF⟩ := H6.out.arg.stored (.slice none 0 0) (.slice none 0 0)
                have HF := Lib.hid hbF
                clear hbF
                go_wp2_with fail
                refine bodyPost_ret (by simp [results, Try.results16, go_sem, e0, e1]; try rfl) rfl ?_
                rw [putP_full hok (by have := HI.out; omega) hok2]
                exact ⟨none, 0, none, 0, rfl, TabO.nil _ _, HF.out⟩
            exact AllReadyH.nil
          exact AllReadyH.nil
        exact AllReadyH.nil
      refine AllReadyH.cons rfl (fun K hK => ?_) ?_
      · -- 8
        go_simp
        have M1 := Lib.hid (H3.out.mid.keep (bel_one _ (.cells #[.int .i64 l] 3)))
        have L1 := Lib.hid (lit_here y3 3 (.int .i64 l))
        refine hK.out _ _ (M1.out.held) (fun hHeld => ?_)
        clear hK K
        refine wpAnyH_ready (rs := [3]) (by kernel_rfl) (by simp) ?_
        refine AllReadyH.cons rfl (fun K hK => ?_) ?_
        · -- 3
          go_simp
          have M2 := Lib.hid (M1.out.keep (bel_one _ (.cells #[.complex .f32 z.1 z.2] 33)))
          have L2 := Lib.hid (lit_next y3 (.cells #[.int .i64 l] 3) 33 (.complex .f32 z.1 z.2))
          refine hK.out _ _ (M2.out.held) (fun hHeld => ?_)
          clear hK K
          refine wpAnyH_ready (rs := [4]) (by kernel_rfl) (by simp) ?_
          refine AllReadyH.cons rfl (fun K hK => ?_) ?_
          · -- 4
            have hsrc := own_below L2.out ((Below.refl _ _).drew)
            have h63 : ps.length + 1 ≤ maxLen := by unfold maxLen; omega
            have hby : (ps.length + 1) * 8 ≤ 140737488355328 := by omega
            refine step_append_row (by rfl) _ _ 22 (by rfl) y.heap.size 33 i0 (.complex .f32 0 0) 8 Try.underlying22 hic hz0 hz1 hz2 rfl _ ps.length (ps.map cx) (by rfl) M2.out.drew.o0 _ _ 1 [.complex .f32 z.1 z.2] (by rfl) hsrc (fun x hx => by rw [List.mem_singleton] at hx; subst hx; rfl) h63 hby M2.out.drew.le ?_
            clear hsrc
            intro a5 c5 w1 ho1 hg1
            have MA := Lib.hid (M2.out.drew.app0 (qs' := ps ++ [z]) (by rw [cx_snoc]; exact ho1) hg1)
            have LL := Lib.hid (World.ownsRow.kept (own_below L1.out (bel_one _ _).drew) hg1 (own_apart (own_below L1.out (bel_one _ _).drew) M2.out.drew.o0 (by decide)))
            clear ho1 hg1
            refine hK.out _ _ (MA.out.held) (fun hHeld => ?_)
            clear hK K
            refine wpAnyH_take (i := 10) (oi := { dst := some 38, op := Op.fieldAddr 25 (Operand.tmp 8) 0, type := 0, pos := "l02_points.go:71", after := #[{ on := 0, ground := Ground.phase }, { on := 1, ground := Ground.phase }, { on := 2, ground := Ground.phase }, { on := 3, ground := Ground.phase }, { on := 4, ground := Ground.phase }, { on := 5, ground := Ground.phase }, { on := 6, ground := Ground.phase }, { on := 7, ground := Ground.textOnly Departure.lateStores }, { on := 8, ground := Ground.textOnly Departure.lateStores }, { on := 9, ground := Ground.textOnly Departure.lateStoresUnsure }], guard := none }) (v := ?_) rfl (by kernel_rfl) (by kernel_rfl) (by kernel_rfl) (fun _ _ _ h => h) (Or.inl ⟨by rfl, ?_⟩) (by assumption) ?_
            rotate_left
            · intro w hSw; (try dsimp only at hSw); go_simp; (try with_reducible rfl)
            simp only [Act.put, List.setIfInBounds_toArray]
            refine wpAnyH_ready (rs := [9]) (by kernel_rfl) (by simp) ?_
            refine AllReadyH.cons rfl (fun K hK => ?_) ?_
            · -- 9
              have hsrc := LL.out
              have h63 : ps.length + 1 ≤ maxLen := by unfold maxLen; omega
              have hby : (ps.length + 1) * 8 ≤ 140737488355328 := by omega
              refine step_append_row (by rfl) _ _ 23 (by rfl) y.heap.size 3 i1 (.int .i64 0) 8 Try.underlying23 hii hy0 hy1 hy2 rfl _ ps.length (ints ls) (by rfl) MA.out.o1 _ _ 1 [.int .i64 l] (by rfl) hsrc (fun x hx => by rw [List.mem_singleton] at hx; subst hx; rfl) h63 hby MA.out.le ?_
              clear hsrc
              intro a6 c6 w2 ho2 hg2
              have MB := Lib.hid (MA.out.app1 (ms' := ls ++ [l]) (by rw [ints_snoc]; exact ho2) hg2)
              clear ho2 hg2
              refine hK.out _ _ (MB.out.held) (fun hHeld => ?_)
              clear hK K
              refine wpAnyH_done (by kernel_rfl) ?_ _
              change wpList _ _ _ _ _ _
              obtain ⟨f0, f1, f2, f3⟩ := MB.out.stores
              have H5 := Lib.hid MB.out.fin
              obtain ⟨q0, q1, q2, q3⟩ := H5.out.cells
              clear MB
              go_wp2_with fail
              have hwf : ∀ p ∈ ps ++ [z], p.1 < 4294967296 ∧ p.2 < 4294967296 := fun p hp => by
                rcases List.mem_append.1 hp with h | h
                · exact HT.out.wf p h
                · rw [List.mem_singleton] at h; subst h; exact hz
              have HW := Lib.hid hwf
              clear hwf q0 q1 q2 q3 f0 f1 f2 f3
              refine (isTable_i _ _ (ps ++ [z]) (ls ++ [l]) _ (tabIn_own H5.out.o0 H5.out.o1 (by omega) (by omega) HW.out)).mono ?_
              rintro e y6 ⟨rfl, hb6⟩
              have H6 := Lib.hid (H5.out.keep hb6)
              clear hb6 H5
              obtain ⟨n0, n1, -⟩ := H6.out.cells
              obtain ⟨-, -, p0, p1, p2, p3⟩ := H6.out.arg.cells
              cases hok2 : isTab (ps ++ [z]) (ls ++ [l]).length with
              | true =>
                obtain ⟨e0, e1, hbF⟩ := H6.out.arg.stored (.slice a5 (ps.length + 1) c5) (.slice a6 (ps.length + 1) c6)
                clear hbF
                go_wp2_with fail
                refine bodyPost_ret (by simp [results, Try.results16, go_sem, e0, e1]; try rfl) rfl ?_
                rw [putP_new hok (by have := HI.out; omega) hok2]
                exact H6.out.done (by simp) HW.out (by omega)
              | false =>
                obtain ⟨e0, e1, hbF⟩ := H6.out.arg.stored (.slice none 0 0) (.slice none 0 0)
                have HF := Lib.hid hbF
                clear hbF
                go_wp2_with fail
                refine bodyPost_ret (by simp [results, Try.results16, go_sem, e0, e1]; try rfl) rfl ?_
                rw [putP_full hok (by have := HI.out; omega) hok2]
                exact ⟨none, 0, none, 0, rfl, TabO.nil _ _, HF.out⟩
            exact AllReadyH.nil
          exact AllReadyH.nil
        exact AllReadyH.nil
      exact AllReadyH.nil
end Go.Proofs.Ytolflcjaglgphaa
