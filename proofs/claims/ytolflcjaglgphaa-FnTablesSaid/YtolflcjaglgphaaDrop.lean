/-
  DropPoint of the program.
-/
import Derived.Test.YtolflcjaglgphaaDel
import Derived.Test.YtolflcjaglgphaaPutI
namespace Go.Proofs.Ytolflcjaglgphaa
open Go.RowKit
theorem eraseIdx_map' {α β : Type} (f : α → β) (xs : List α) (j : Nat) : (xs.map f).eraseIdx j = (xs.eraseIdx j).map f := by
  rw [List.eraseIdx_eq_take_drop_succ, List.eraseIdx_eq_take_drop_succ, List.map_append, List.map_take, List.map_drop]
/-- A table without a point. -/
def dropP (ps : List (Nat × Nat)) (ls : List Int) (z : Nat × Nat) : Option (List (Nat × Nat) × List Int) :=
  if isTab ps ls.length && decide (0 ≤ idxI ps z) then some (ps.eraseIdx (idxI ps z).toNat, ls.eraseIdx (idxI ps z).toNat) else none
theorem dropP_bad {ps : List (Nat × Nat)} {ls : List Int} {z : Nat × Nat} (h : isTab ps ls.length = false) : dropP ps ls z = none := by unfold dropP; rw [h]; rfl
theorem dropP_miss {ps : List (Nat × Nat)} {ls : List Int} {z : Nat × Nat} (h : ¬ 0 ≤ idxI ps z) : dropP ps ls z = none := by unfold dropP; rw [decide_eq_false h, Bool.and_false]; rfl
theorem dropP_hit {ps : List (Nat × Nat)} {ls : List Int} {z : Nat × Nat} {j : Nat} (h : isTab ps ls.length = true) (h2 : idxI ps z = (j : Int)) : dropP ps ls z = some (ps.eraseIdx j, ls.eraseIdx j) := by
  unfold dropP
  rw [h, decide_eq_true (show 0 ≤ idxI ps z by omega), h2]; rfl
set_option maxHeartbeats 4000000 in
theorem drop_i (B : Nat) (v0 v1 : Value) (ps : List (Nat × Nat)) (ls : List Int) (z : Nat × Nat) (w : World) (ht : TabO B w v0 v1 ps ls) :
    Calls Try.prog 19 #[.agg #[v0, v1], cx z] w (TabRet (dropP ps ls z) w) := by
  obtain ⟨a, ca, rfl⟩ := owns_form ht.o0
  obtain ⟨b, cb, rfl⟩ := owns_form ht.o1
  have HT := Lib.hid ht
  clear ht
  obtain ⟨i0, hic, hz0, hz1, hz2⟩ := info_parts cxInfo
  obtain ⟨i1, hii, hy0, hy1, hy2⟩ := info_parts intInfo
  unfold cx
  go_enter Try.func19, Try.ntmps19
  go_wp2_with fail
  have hS := PS.start w (Value.slice a ps.length ca) (Value.slice b ps.length cb)
  generalize (w.alloc (Obj.cells #[Value.slice a ps.length ca, Value.slice b ps.length cb] 25)).alloc (Obj.cells #[Value.slice none 0 0, Value.slice none 0 0] 25) = x at *
  have HX := Lib.hid hS
  clear hS
  refine (isTable_i _ _ ps ls _ (HT.out.below HX.out.bel).tabIn).mono ?_
  rintro e y ⟨rfl, hby⟩
  have HY := Lib.hid (HX.out.keep hby)
  clear hby HX
  cases hok : isTab ps ls.length with
  | false =>
    obtain ⟨k0, k1, k2, k3, k4, k5⟩ := HY.out.cells
    obtain ⟨e0, e1, hbF⟩ := HY.out.stored (.slice none 0 0) (.slice none 0 0)
    have HB := Lib.hid hbF
    clear hbF
    go_wp2_with fail
    refine bodyPost_ret (by simp [results, Try.results19, go_sem, e0, e1]; try rfl) rfl ?_
    rw [dropP_bad hok]
    exact ⟨none, 0, none, 0, rfl, TabO.nil _ _, HB.out⟩
  | true =>
    obtain ⟨k0, k1, k2, k3, k4, k5⟩ := HY.out.cells
    go_wp2_with fail
    have h64 : ps.length ≤ 64 := (of_decide_eq_true hok).2.1
    clear k0 k1 k2 k3 k4 k5
    refine (place_any a ps.length ca ps z _ (by omega) (slat_own' (HT.out.below HY.out.bel).o0)).mono ?_
    rintro e y1 ⟨rfl, hb1⟩
    have HY1 := Lib.hid (HY.out.keep hb1)
    clear hb1 HY
    obtain ⟨k0, k1, k2, k3, k4, k5⟩ := HY1.out.cells
    by_cases hi : 0 ≤ idxI ps z
    · have hbd := idx_bd ps z
      obtain ⟨j, hj⟩ : ∃ j : Nat, idxI ps z = j := ⟨(idxI ps z).toNat, by omega⟩
      have hP := Lib.hid (dropP_hit hok hj)
      rw [hj] at hbd hi
      rw [hj]
      have hjn : (j : Int) < (ps.length : Int) := hbd.2
      have hjn' : j < ps.length := by omega
      have hnn : ¬ (j : Int) < 0 := by omega
      clear hbd hi
      go_wp2_with fail
      refine (copyTable_i B B _ _ ps.length ps.length ps ls _ (by omega) (by omega) (HT.out.below HY1.out.bel).o0 (HT.out.below HY1.out.bel).o1).mono ?_
      rintro e z1 ⟨a1, c1, b1, c2, rfl, o0, o1, hbz⟩
      have HV := Lib.hid (PV.start HY1.out hbz o0 o1)
      clear o0 o1 hbz k0 k1 k2 k3 k4 k5 HY1
      go_wp2_with fail
      generalize z1.alloc (.cells #[.slice a1 ps.length c1, .slice b1 ps.length c2] 25) = y2 at *
      generalize z1.heap.size = D at *
      obtain ⟨g, q, hs, hg⟩ := owns_some HV.out.o0 (by omega)
      obtain ⟨rfl, rfl⟩ : a1 = some ⟨g, 0, none⟩ ∧ c1 = q := by cases hs; exact ⟨rfl, rfl⟩
      clear hs
      obtain ⟨g', q', hs, hg'⟩ := owns_some HV.out.o1 (by omega)
      obtain ⟨rfl, rfl⟩ : b1 = some ⟨g', 0, none⟩ ∧ c2 = q' := by cases hs; exact ⟨rfl, rfl⟩
      clear hs
      have M0 := Lib.hid HV.out.mid.drew
      have ej : ((j + 1 : Nat) : Int) = (j : Int) + 1 := by omega
      have hwr : IntKind.i64.wrap ((j : Int) + 1) = (j : Int) + 1 := by rw [IntKind.wrap_i64]; omega
      have hd1 := fun W h => delC y1.heap.size g ps.length c1 j (j + 1) ps W h hjn' rfl h64
      have hd2 := fun W h => delI y1.heap.size g' ps.length c2 j (j + 1) ls W h hjn' rfl h64
      rw [ej] at hd1 hd2
      have HD1 := Lib.hid hd1
      have HD2 := Lib.hid hd2
      clear hd1 hd2 ej
      refine wp_region_split 13 (by kernel_rfl) (by kernel_rfl) ?_
      simp only [List.take_succ_cons, List.take_zero, List.drop_succ_cons, List.drop_zero]
      refine wpAny_of_held (S := (fun w' => w'.cell? ⟨D, 0, none⟩ = some (Value.slice (some ⟨g, 0, none⟩) ps.length c1) ∧ w'.cell? ⟨D, 1, none⟩ = some (Value.slice (some ⟨g', 0, none⟩) ps.length c2))) _ _ _ _ ?_
      have hHeld := M0.out.held
      refine wpAnyH_take (i := 0) (oi := { dst := some 21, op := Op.fieldAddr 25 (Operand.tmp 7) 0, type := 0, pos := "l02_points.go:87", after := #[], guard := none }) (v := ?_) rfl (by kernel_rfl) (by kernel_rfl) (by kernel_rfl) (fun _ _ _ h => h) (Or.inl ⟨by rfl, ?_⟩) (by assumption) ?_
      rotate_left
      · intro w hSw; (try dsimp only at hSw); go_simp; (try with_reducible rfl)
      simp only [Act.put, List.setIfInBounds_toArray, List.set_cons_zero, List.set_cons_succ]
      refine wpAnyH_take (i := 2) (oi := { dst := some 23, op := Op.move (Operand.tmp 6), type := 3, pos := "l02_points.go:87", after := #[], guard := none }) (v := ?_) rfl (by kernel_rfl) (by kernel_rfl) (by kernel_rfl) (fun _ _ _ h => h) (Or.inl ⟨by rfl, ?_⟩) (by assumption) ?_
      rotate_left
      · intro w hSw; (try dsimp only at hSw); go_simp; (try with_reducible rfl)
      simp only [Act.put, List.setIfInBounds_toArray, List.set_cons_zero, List.set_cons_succ]
      refine wpAnyH_take (i := 3) (oi := { dst := some 24, op := Op.move (Operand.tmp 6), type := 3, pos := "l02_points.go:87", after := #[], guard := none }) (v := ?_) rfl (by kernel_rfl) (by kernel_rfl) (by kernel_rfl) (fun _ _ _ h => h) (Or.inl ⟨by rfl, ?_⟩) (by assumption) ?_
      rotate_left
      · intro w hSw; (try dsimp only at hSw); go_simp; (try with_reducible rfl)
      simp only [Act.put, List.setIfInBounds_toArray, List.set_cons_zero, List.set_cons_succ]
      refine wpAnyH_take (i := 4) (oi := { dst := some 25, op := Op.binOp BinOp.add 3 (Operand.tmp 24) (Operand.const (Value.int IntKind.i64 1)) 3, type := 3, pos := "l02_points.go:87", after := #[{ on := 3, ground := Ground.data }], guard := none }) (v := ?_) rfl (by kernel_rfl) (by kernel_rfl) (by kernel_rfl) (fun _ _ _ h => h) (Or.inl ⟨by rfl, ?_⟩) (by assumption) ?_
      rotate_left
      · intro w hSw; (try dsimp only at hSw); go_simp; (try with_reducible rfl)
      simp only [Act.put, List.setIfInBounds_toArray, List.set_cons_zero, List.set_cons_succ]
      refine wpAnyH_take (i := 6) (oi := { dst := some 27, op := Op.fieldAddr 25 (Operand.tmp 7) 1, type := 0, pos := "l02_points.go:87", after := #[], guard := none }) (v := ?_) rfl (by kernel_rfl) (by kernel_rfl) (by kernel_rfl) (fun _ _ _ h => h) (Or.inl ⟨by rfl, ?_⟩) (by assumption) ?_
      rotate_left
      · intro w hSw; (try dsimp only at hSw); go_simp; (try with_reducible rfl)
      simp only [Act.put, List.setIfInBounds_toArray, List.set_cons_zero, List.set_cons_succ]
      refine wpAnyH_take (i := 8) (oi := { dst := some 29, op := Op.move (Operand.tmp 6), type := 3, pos := "l02_points.go:87", after := #[], guard := none }) (v := ?_) rfl (by kernel_rfl) (by kernel_rfl) (by kernel_rfl) (fun _ _ _ h => h) (Or.inl ⟨by rfl, ?_⟩) (by assumption) ?_
      rotate_left
      · intro w hSw; (try dsimp only at hSw); go_simp; (try with_reducible rfl)
      simp only [Act.put, List.setIfInBounds_toArray, List.set_cons_zero, List.set_cons_succ]
      refine wpAnyH_take (i := 9) (oi := { dst := some 30, op := Op.move (Operand.tmp 6), type := 3, pos := "l02_points.go:87", after := #[], guard := none }) (v := ?_) rfl (by kernel_rfl) (by kernel_rfl) (by kernel_rfl) (fun _ _ _ h => h) (Or.inl ⟨by rfl, ?_⟩) (by assumption) ?_
      rotate_left
      · intro w hSw; (try dsimp only at hSw); go_simp; (try with_reducible rfl)
      simp only [Act.put, List.setIfInBounds_toArray, List.set_cons_zero, List.set_cons_succ]
      refine wpAnyH_take (i := 10) (oi := { dst := some 31, op := Op.binOp BinOp.add 3 (Operand.tmp 30) (Operand.const (Value.int IntKind.i64 1)) 3, type := 3, pos := "l02_points.go:87", after := #[{ on := 9, ground := Ground.data }], guard := none }) (v := ?_) rfl (by kernel_rfl) (by kernel_rfl) (by kernel_rfl) (fun _ _ _ h => h) (Or.inl ⟨by rfl, ?_⟩) (by assumption) ?_
      rotate_left
      · intro w hSw; (try dsimp only at hSw); go_simp; (try with_reducible rfl)
      simp only [Act.put, List.setIfInBounds_toArray, List.set_cons_zero, List.set_cons_succ]
      refine wpAnyH_take (i := 1) (oi := { dst := some 22, op := Op.load 22 (Operand.tmp 21), type := 22, pos := "l02_points.go:87", after := #[{ on := 0, ground := Ground.data }], guard := none }) (v := ?_) rfl (by kernel_rfl) (by kernel_rfl) (by kernel_rfl) (fun _ _ _ h => h) (Or.inl ⟨by rfl, ?_⟩) (by assumption) ?_
      rotate_left
      · intro w hSw; (try dsimp only at hSw); go_simp; (try with_reducible rfl)
      simp only [Act.put, List.setIfInBounds_toArray, List.set_cons_zero, List.set_cons_succ]
      refine wpAnyH_take (i := 7) (oi := { dst := some 28, op := Op.load 23 (Operand.tmp 27), type := 23, pos := "l02_points.go:87", after := #[{ on := 6, ground := Ground.data }], guard := none }) (v := ?_) rfl (by kernel_rfl) (by kernel_rfl) (by kernel_rfl) (fun _ _ _ h => h) (Or.inl ⟨by rfl, ?_⟩) (by assumption) ?_
      rotate_left
      · intro w hSw; (try dsimp only at hSw); go_simp; (try with_reducible rfl)
      simp only [Act.put, List.setIfInBounds_toArray, List.set_cons_zero, List.set_cons_succ]
      refine wpAnyH_ready (rs := [5]) (by kernel_rfl) (by simp) ?_
      refine AllReadyH.cons rfl (fun K hK => ?_) AllReadyH.nil
      go_simp
      go_wp2_with (go_at_call 48; refine (HD1.out _ M0.out.o0).mono ?_; rintro e w1 ⟨rfl, ho, hg1⟩)
      have MA := Lib.hid (M0.out.app0 (qs' := ps.eraseIdx j) (by rw [← eraseIdx_map']; exact ho) hg1)
      clear ho hg1
      refine hK.out _ _ (MA.out.held) (fun hHeld => ?_)
      clear hK K
      refine wpAnyH_take (i := 12) (oi := { dst := some 33, op := Op.fieldAddr 25 (Operand.tmp 7) 0, type := 0, pos := "l02_points.go:87", after := #[{ on := 0, ground := Ground.phase }, { on := 1, ground := Ground.phase }, { on := 2, ground := Ground.phase }, { on := 3, ground := Ground.phase }, { on := 4, ground := Ground.phase }, { on := 5, ground := Ground.phase }, { on := 6, ground := Ground.phase }, { on := 7, ground := Ground.phase }, { on := 8, ground := Ground.textOnly Departure.lateStores }, { on := 9, ground := Ground.textOnly Departure.lateStores }, { on := 10, ground := Ground.textOnly Departure.lateStores }, { on := 11, ground := Ground.textOnly Departure.lateStoresUnsure }], guard := none }) (v := ?_) rfl (by kernel_rfl) (by kernel_rfl) (by kernel_rfl) (fun _ _ _ h => h) (Or.inl ⟨by rfl, ?_⟩) (by assumption) ?_
      rotate_left
      · intro w hSw; (try dsimp only at hSw); go_simp; (try with_reducible rfl)
      simp only [Act.put, List.setIfInBounds_toArray, List.set_cons_zero, List.set_cons_succ]
      refine wpAnyH_ready (rs := [11]) (by kernel_rfl) (by simp) ?_
      refine AllReadyH.cons rfl (fun K hK => ?_) AllReadyH.nil
      go_simp
      go_wp2_with (go_at_call 49; refine (HD2.out _ MA.out.o1).mono ?_; rintro e w2 ⟨rfl, ho, hg1⟩)
      have MB := Lib.hid (MA.out.app1 (ms' := ls.eraseIdx j) (by unfold ints; rw [← eraseIdx_map']; exact ho) hg1)
      clear ho hg1
      refine hK.out _ _ (MB.out.held) (fun hHeld => ?_)
      clear hK K
      refine wpAnyH_done (by kernel_rfl) ?_ _
      change wpList _ _ _ _ _ _
      obtain ⟨f0, f1, f2, f3⟩ := MB.out.stores
      have H5 := Lib.hid MB.out.fin
      obtain ⟨q0, q1, q2, q3⟩ := H5.out.cells
      obtain ⟨-, -, p0, p1, p2, p3⟩ := H5.out.arg.cells
      obtain ⟨e0, e1, hbF⟩ := H5.out.arg.stored (.slice (some ⟨g, 0, none⟩) (ps.length - 1) c1) (.slice (some ⟨g', 0, none⟩) (ps.length - 1) c2)
      clear hbF MB MA
      go_wp2_with fail
      refine bodyPost_ret (by simp [results, Try.results19, go_sem, e0, e1]; try rfl) rfl ?_
      rw [hP.out]
      exact H5.out.done (by rw [List.length_eraseIdx_of_lt hjn']) (fun p hp => HT.out.wf p (List.mem_of_mem_eraseIdx hp)) (by omega)
    · have hlt : idxI ps z < 0 := by omega
      obtain ⟨e0, e1, hbF⟩ := HY1.out.stored (.slice none 0 0) (.slice none 0 0)
      have HB := Lib.hid hbF
      clear hbF hi
      go_wp2_with fail
      refine bodyPost_ret (by simp [results, Try.results19, go_sem, e0, e1]; try rfl) rfl ?_
      rw [dropP_miss (by omega)]
      exact ⟨none, 0, none, 0, rfl, TabO.nil _ _, HB.out⟩
end Go.Proofs.Ytolflcjaglgphaa
