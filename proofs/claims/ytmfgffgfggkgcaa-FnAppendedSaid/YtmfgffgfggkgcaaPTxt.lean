/-
  The text of a pool, by the reference.
-/
import Derived.Test.YtmfgffgfggkgcaaTxt
import Derived.Test.YtmfgffgfggkgcaaCpP
namespace Go.Proofs.Ytmfgffgfggkgcaa
open Go.RowKit
def txtS : List (Nat × Nat) → List UInt8
  | [] => []
  | z :: S => pt8 z ++ ([59] ++ txtS S)
theorem txtS_append (A B : List (Nat × Nat)) : txtS (A ++ B) = txtS A ++ txtS B := by
  induction A with
  | nil => rfl
  | cons z A ih => rw [List.cons_append, txtS, ih, txtS]; simp
theorem txtS_take {S : List (Nat × Nat)} {i : Nat} (h : i < S.length) : txtS (S.take (i + 1)) = txtS (S.take i) ++ (pt8 S[i] ++ [59]) := by
  rw [List.take_succ_eq_append_getElem h, txtS_append]; rfl
/-- The text of a lease. -/
def ls8 (l : Ls) : List UInt8 := Lib.itoa (lsS l) ++ ([32] ++ (Lib.itoa (lsC l) ++ ([32] ++ (Lib.itoa (lsR l) ++ ((if lsF l = true then [32, 102, 114, 101, 101] else []) ++ [59])))))
def txtL : List Ls → List UInt8
  | [] => []
  | l :: L => ls8 l ++ txtL L
theorem txtL_append (A B : List Ls) : txtL (A ++ B) = txtL A ++ txtL B := by
  induction A with
  | nil => rfl
  | cons z A ih => rw [List.cons_append, txtL, ih, txtL]; simp
theorem txtL_take {L : List Ls} {i : Nat} (h : i < L.length) : txtL (L.take (i + 1)) = txtL (L.take i) ++ ls8 L[i] := by
  rw [List.take_succ_eq_append_getElem h, txtL_append, txtL, txtL, List.append_nil]
/-- A lease's numbers are small. -/
def lsSmall (l : Ls) : Prop := -4096 ≤ lsS l ∧ lsS l ≤ 4096 ∧ -4096 ≤ lsC l ∧ lsC l ≤ 4096 ∧ -4096 ≤ lsR l ∧ lsR l ≤ 4096
theorem ba_pt (a b : List UInt8) : (⟨a.toArray⟩ : ByteArray) ++ (⟨b.toArray⟩ : ByteArray) ++ (⟨#[59]⟩ : ByteArray) = ⟨(a ++ (b ++ [59])).toArray⟩ := by
  rw [show (⟨#[59]⟩ : ByteArray) = ⟨[59].toArray⟩ from rfl, ba_append, ba_append]
  simp
theorem ba_ls (o s1 s2 s3 : List UInt8) : (⟨o.toArray⟩ : ByteArray) ++ (⟨s1.toArray⟩ : ByteArray) ++ (⟨#[32]⟩ : ByteArray) ++ (⟨s2.toArray⟩ : ByteArray) ++ (⟨#[32]⟩ : ByteArray) ++ (⟨s3.toArray⟩ : ByteArray) = ⟨(o ++ (s1 ++ ([32] ++ (s2 ++ ([32] ++ s3))))).toArray⟩ := by
  rw [show (⟨#[32]⟩ : ByteArray) = ⟨[32].toArray⟩ from rfl, ba_append, ba_append, ba_append, ba_append, ba_append]
  simp
theorem ba_free (o : List UInt8) : (⟨o.toArray⟩ : ByteArray) ++ (⟨#[32, 102, 114, 101, 101]⟩ : ByteArray) ++ (⟨#[59]⟩ : ByteArray) = ⟨(o ++ ([32, 102, 114, 101, 101] ++ [59])).toArray⟩ := by
  rw [show (⟨#[32, 102, 114, 101, 101]⟩ : ByteArray) = ⟨[32, 102, 114, 101, 101].toArray⟩ from rfl, show (⟨#[59]⟩ : ByteArray) = ⟨[59].toArray⟩ from rfl, ba_append, ba_append]
  simp
theorem itoa_small {n : Int} (h : -4096 ≤ n ∧ n ≤ 4096) : (Lib.itoa n).length ≤ 21 := Lib.itoa_length_le n (by omega) (by omega)
set_option maxHeartbeats 4000000 in
theorem poolText_s (B : Nat) (v0 v1 : Value) (S : List (Nat × Nat)) (L : List Ls) (w : World) (hp : PoO B w v0 v1 S L) (hL : ∀ l ∈ L, lsSmall l) :
    Calls Try.prog 17 #[.agg #[v0, v1]] w (StrAns (txtS S ++ txtL L) w) := by
  obtain ⟨a, ca, rfl⟩ := hp.o0.open
  obtain ⟨b, cb, rfl⟩ := hp.o1.open
  have hn := hp.le0
  have hm := hp.le1
  have HP := Lib.hid (fun W h => hp.below (w' := W) h)
  have HW := Lib.hid (show _ ∧ _ from ⟨hp.wf, hL⟩)
  clear hp hL
  have hb1 := bel_one w (.cells #[.slice a S.length ca, .slice b L.length cb] 25)
  have hx := heap_new w (.cells #[.slice a S.length ca, .slice b L.length cb] 25)
  have HB := Lib.hid (show _ ∧ _ from ⟨hb1, hx⟩)
  clear hb1 hx
  go_enter Try.func17, Try.ntmps17
  go_wp2_with fail
  go_loopw [3, 11] (fun o t wr => ∃ (i : Nat) (out : List UInt8), i ≤ S.length ∧ t = .int .i64 i ∧ o = .string ⟨out.toArray⟩ ∧ out.length ≤ 90 * i ∧ out = txtS (S.take i) ∧ Below w.heap.size w wr ∧ wr.heap[w.heap.size]? = some (.cells #[.slice a S.length ca, .slice b L.length cb] 25 (0, 0))) (fun _ t _ => S.length - (intOf t).toNat)
  case atStart => exact ⟨0, [], by omega, rfl, rfl, by simp, rfl, HB.out.1, HB.out.2⟩
  case round =>
    clear HB
    obtain ⟨i, out, hi, rfl, rfl, hlen, hout, hbel, hbox⟩ := hrel
    have HI := Lib.hid (show _ ∧ _ ∧ _ from ⟨hout, hbel, hbox⟩)
    have k0 := cell_of_row _ _ 0 _ _ _ hbox
    have k1 := cell_of_row _ _ 1 _ _ _ hbox
    simp only [List.getElem?_toArray] at k0 k1
    clear hout hbel hbox
    by_cases hlt : (i : Int) < (S.length : Int)
    · have hiS : i < S.length := by omega
      obtain ⟨g, rfl, -, c0⟩ := samp_cell (i := i) (HP.out _ HI.out.2.1).o0 hiS
      have HZ := Lib.hid (show _ ∧ _ ∧ _ from ⟨HW.out.1 _ (List.getElem_mem hiS), pt8_len S[i], txtS_take hiS⟩)
      generalize S[i] = z at *
      clear k1
      go_wp2_with fail
      refine (l8Point_any z HZ.out.1.1 HZ.out.1.2 _).mono ?_
      rintro e w1 ⟨rfl, hb⟩
      have HB := Lib.hid (show _ ∧ _ from ⟨bel_go HI.out.2.1 hb, (hb.block w.heap.size (Array.getElem?_eq_some_iff.1 HI.out.2.2).1).trans HI.out.2.2⟩)
      clear hb k0 c0
      have HE := Lib.hid (show txtS (S.take (i + 1)) = out ++ (pt8 z ++ [59]) by rw [HZ.out.2.2, HI.out.1])
      have hl2 : (pt8 z).length ≤ 89 := HZ.out.2.1
      generalize pt8 z = s at *
      go_wp2_with fail
      go_roundw
      case rel => exact ⟨i + 1, out ++ (s ++ [59]), by omega, by go_num, by rw [ba_pt], by simp; omega, HE.out.symm, HB.out.1, HB.out.2⟩
      case measure => simp [intOf]; omega
    · obtain rfl : i = S.length := by omega
      have HO := Lib.hid (show out.length ≤ 23040 ∧ out = txtS S from ⟨by omega, by rw [HI.out.1, List.take_length]⟩)
      clear hlt hi hlen
      go_wp2_with fail
      clear k0 k1
      go_loopw [3, 24] (fun o t wr => ∃ (j : Nat) (o2 : List UInt8), j ≤ L.length ∧ t = .int .i64 j ∧ o = .string ⟨o2.toArray⟩ ∧ o2.length ≤ 23040 + 80 * j ∧ o2 = txtS S ++ txtL (L.take j) ∧ Below w.heap.size w wr) (fun _ t _ => L.length - (intOf t).toNat)
      case atStart => exact ⟨0, out, by omega, rfl, rfl, by have := HO.out.1; omega, by rw [HO.out.2]; simp [txtL], HI.out.2.1⟩
      case round =>
        clear HO HI
        obtain ⟨j, o2, hj, rfl, rfl, hlen, hout, hbel⟩ := hrel
        have HJ := Lib.hid (show _ ∧ _ from ⟨hout, hbel⟩)
        clear hout hbel
        by_cases hlt : (j : Int) < (L.length : Int)
        · have hjL : j < L.length := by omega
          obtain ⟨g, rfl, -, c0, c1, c2, c3⟩ := lease_cells (i := j) (HP.out _ HJ.out.2).o1 hjL
          have HS := Lib.hid (show _ ∧ _ from ⟨HW.out.2 _ (List.getElem_mem hjL), txtL_take hjL⟩)
          generalize L[j] = l at *
          have HE := Lib.hid (show _ ∧ _ from ⟨bel_one wr (.cells #[.int .i64 (lsS l), .int .i64 (lsC l), .int .i64 (lsR l), .bool (lsF l)] 52), heap_new wr (.cells #[.int .i64 (lsS l), .int .i64 (lsC l), .int .i64 (lsR l), .bool (lsF l)] 52)⟩)
          have hl1 := itoa_small (n := lsS l) (by have := HS.out.1; unfold lsSmall at this; omega)
          have hl2 := itoa_small (n := lsC l) (by have := HS.out.1; unfold lsSmall at this; omega)
          have hl3 := itoa_small (n := lsR l) (by have := HS.out.1; unfold lsSmall at this; omega)
          have HT1 := Lib.hid (l8Int_any (lsS l) (by have := HS.out.1; unfold lsSmall at this; omega) (by have := HS.out.1; unfold lsSmall at this; omega))
          have HT2 := Lib.hid (l8Int_any (lsC l) (by have := HS.out.1; unfold lsSmall at this; omega) (by have := HS.out.1; unfold lsSmall at this; omega))
          have HT3 := Lib.hid (l8Int_any (lsR l) (by have := HS.out.1; unfold lsSmall at this; omega) (by have := HS.out.1; unfold lsSmall at this; omega))
          have HLs := Lib.hid (show ls8 l = Lib.itoa (lsS l) ++ ([32] ++ (Lib.itoa (lsC l) ++ ([32] ++ (Lib.itoa (lsR l) ++ ((if lsF l = true then [32, 102, 114, 101, 101] else []) ++ [59]))))) from rfl)
          generalize Lib.itoa (lsS l) = s1 at *
          generalize Lib.itoa (lsC l) = s2 at *
          generalize Lib.itoa (lsR l) = s3 at *
          go_upto_region 10 with fail
          have hbw : Below w.heap.size w (wr.alloc (.cells #[.int .i64 (lsS l), .int .i64 (lsC l), .int .i64 (lsR l), .bool (lsF l)] 52)) := bel_go HJ.out.2 HE.out.1
          generalize wr.alloc (.cells #[.int .i64 (lsS l), .int .i64 (lsC l), .int .i64 (lsR l), .bool (lsF l)] 52) = y at *
          generalize wr.heap.size = E at *
          have HY := Lib.hid hbw
          clear hbw c0 c1 c2 c3
          have hEy : E < y.heap.size := (Array.getElem?_eq_some_iff.1 HE.out.2).1
          have HK := Lib.hid (fun W (h : Below y.heap.size y W) => (show W.cell? ⟨E, 0, none⟩ = some (.int .i64 (lsS l)) ∧ W.cell? ⟨E, 1, none⟩ = some (.int .i64 (lsC l)) ∧ W.cell? ⟨E, 2, none⟩ = some (.int .i64 (lsR l)) ∧ W.cell? ⟨E, 3, none⟩ = some (.bool (lsF l)) from by
            have hb := (h.block E hEy).trans HE.out.2
            exact ⟨cell_of_row _ _ 0 _ _ _ hb, cell_of_row _ _ 1 _ _ _ hb, cell_of_row _ _ 2 _ _ _ hb, cell_of_row _ _ 3 _ _ _ hb⟩))
          have HD := Lib.hid (show Below y.heap.size y y.drew from (Below.refl _ _).drew)
          clear hEy
          have n1 : ¬ 9223372036854775807 < o2.length + s1.length := by omega
          have n2 : ¬ 9223372036854775807 < o2.length + s1.length + 1 := by omega
          have n3 : ¬ 9223372036854775807 < o2.length + s1.length + 1 + s2.length := by omega
          have n4 : ¬ 9223372036854775807 < o2.length + s1.length + 1 + s2.length + 1 := by omega
          have n5 : ¬ 9223372036854775807 < o2.length + s1.length + 1 + s2.length + 1 + s3.length := by omega
          refine wp_region_held_drew (S := fun W => W.cell? ⟨E, 0, none⟩ = some (.int .i64 (lsS l)) ∧ W.cell? ⟨E, 1, none⟩ = some (.int .i64 (lsC l)) ∧ W.cell? ⟨E, 2, none⟩ = some (.int .i64 (lsR l)) ∧ W.cell? ⟨E, 3, none⟩ = some (.bool (lsF l))) (by kernel_rfl) (HK.out _ HD.out) (fun hHeld => ?_)
          refine wpAnyH_take (i := 0) (v := ?_) (by simp only [List.getElem?_toArray, List.getElem?_cons_zero]; rfl) (by kernel_rfl) (by kernel_rfl) (by kernel_rfl) (by intro _ _ _ h; exact h) (Or.inl ⟨by rfl, ?_⟩) (by assumption) ?_
          rotate_left
          · intro w hSw; (try dsimp only at hSw); go_simp; (try with_reducible rfl)
          simp only [Act.put, List.setIfInBounds_toArray, List.set_cons_zero, List.set_cons_succ]
          refine wpAnyH_take (i := 1) (v := ?_) (by simp only [List.getElem?_toArray, List.getElem?_cons_zero, List.getElem?_cons_succ]; rfl) (by kernel_rfl) (by kernel_rfl) (by kernel_rfl) (by intro _ _ _ h; exact h) (Or.inl ⟨by rfl, ?_⟩) (by assumption) ?_
          rotate_left
          · intro w hSw; (try dsimp only at hSw); go_simp; (try with_reducible rfl)
          simp only [Act.put, List.setIfInBounds_toArray, List.set_cons_zero, List.set_cons_succ]
          refine wpAnyH_take (i := 2) (v := ?_) (by simp only [List.getElem?_toArray, List.getElem?_cons_zero, List.getElem?_cons_succ]; rfl) (by kernel_rfl) (by kernel_rfl) (by kernel_rfl) (by intro _ _ _ h; exact h) (Or.inl ⟨by rfl, ?_⟩) (by assumption) ?_
          rotate_left
          · intro w hSw; (try dsimp only at hSw); go_simp; (try with_reducible rfl)
          simp only [Act.put, List.setIfInBounds_toArray, List.set_cons_zero, List.set_cons_succ]
          refine wpAnyH_take (i := 6) (v := ?_) (by simp only [List.getElem?_toArray, List.getElem?_cons_zero, List.getElem?_cons_succ]; rfl) (by kernel_rfl) (by kernel_rfl) (by kernel_rfl) (by intro _ _ _ h; exact h) (Or.inl ⟨by rfl, ?_⟩) (by assumption) ?_
          rotate_left
          · intro w hSw; (try dsimp only at hSw); go_simp; (try with_reducible rfl)
          simp only [Act.put, List.setIfInBounds_toArray, List.set_cons_zero, List.set_cons_succ]
          refine wpAnyH_take (i := 7) (v := ?_) (by simp only [List.getElem?_toArray, List.getElem?_cons_zero, List.getElem?_cons_succ]; rfl) (by kernel_rfl) (by kernel_rfl) (by kernel_rfl) (by intro _ _ _ h; exact h) (Or.inl ⟨by rfl, ?_⟩) (by assumption) ?_
          rotate_left
          · intro w hSw; (try dsimp only at hSw); go_simp; (try with_reducible rfl)
          simp only [Act.put, List.setIfInBounds_toArray, List.set_cons_zero, List.set_cons_succ]
          refine wpAnyH_take (i := 11) (v := ?_) (by simp only [List.getElem?_toArray, List.getElem?_cons_zero, List.getElem?_cons_succ]; rfl) (by kernel_rfl) (by kernel_rfl) (by kernel_rfl) (by intro _ _ _ h; exact h) (Or.inl ⟨by rfl, ?_⟩) (by assumption) ?_
          rotate_left
          · intro w hSw; (try dsimp only at hSw); go_simp; (try with_reducible rfl)
          simp only [Act.put, List.setIfInBounds_toArray, List.set_cons_zero, List.set_cons_succ]
          refine wpAnyH_take (i := 12) (v := ?_) (by simp only [List.getElem?_toArray, List.getElem?_cons_zero, List.getElem?_cons_succ]; rfl) (by kernel_rfl) (by kernel_rfl) (by kernel_rfl) (by intro _ _ _ h; exact h) (Or.inl ⟨by rfl, ?_⟩) (by assumption) ?_
          rotate_left
          · intro w hSw; (try dsimp only at hSw); go_simp; (try with_reducible rfl)
          simp only [Act.put, List.setIfInBounds_toArray, List.set_cons_zero, List.set_cons_succ]
          refine wpAnyH_ready (rs := [3]) (by kernel_rfl) (by simp) ?_
          refine AllReadyH.cons rfl (fun K hK => ?_) AllReadyH.nil
          go_simp
          go_wp2_with (refine (HT1.out _).mono ?_; rintro e v ⟨rfl, hb⟩; have HQ1 := Lib.hid (bel_go (x := y) HD.out hb); clear hb)
          clear hHeld
          refine hK.out _ _ (HK.out _ HQ1.out) (fun hHeld => ?_)
          clear hK K
          refine wpAnyH_take (i := 4) (v := ?_) (by simp only [List.getElem?_toArray, List.getElem?_cons_zero, List.getElem?_cons_succ]; rfl) (by kernel_rfl) (by kernel_rfl) (by kernel_rfl) (by intro _ _ _ h; exact h) (Or.inl ⟨by rfl, ?_⟩) (by assumption) ?_
          rotate_left
          · intro w hSw; (try dsimp only at hSw); go_simp; (try with_reducible rfl)
          simp only [Act.put, List.setIfInBounds_toArray, List.set_cons_zero, List.set_cons_succ]
          refine wpAnyH_take (i := 5) (v := ?_) (by simp only [List.getElem?_toArray, List.getElem?_cons_zero, List.getElem?_cons_succ]; rfl) (by kernel_rfl) (by kernel_rfl) (by kernel_rfl) (by intro _ _ _ h; exact h) (Or.inl ⟨by rfl, ?_⟩) (by assumption) ?_
          rotate_left
          · intro w hSw; (try dsimp only at hSw); go_simp; (try with_reducible rfl)
          simp only [Act.put, List.setIfInBounds_toArray, List.set_cons_zero, List.set_cons_succ]
          refine wpAnyH_ready (rs := [8]) (by kernel_rfl) (by simp) ?_
          refine AllReadyH.cons rfl (fun K hK => ?_) AllReadyH.nil
          go_simp
          go_wp2_with (refine (HT2.out _).mono ?_; rintro e v ⟨rfl, hb⟩; have HQ1 := Lib.hid (bel_go (x := y) HQ1.out hb); clear hb)
          clear hHeld
          refine hK.out _ _ (HK.out _ HQ1.out) (fun hHeld => ?_)
          clear hK K
          refine wpAnyH_take (i := 9) (v := ?_) (by simp only [List.getElem?_toArray, List.getElem?_cons_zero, List.getElem?_cons_succ]; rfl) (by kernel_rfl) (by kernel_rfl) (by kernel_rfl) (by intro _ _ _ h; exact h) (Or.inl ⟨by rfl, ?_⟩) (by assumption) ?_
          rotate_left
          · intro w hSw; (try dsimp only at hSw); go_simp; (try with_reducible rfl)
          simp only [Act.put, List.setIfInBounds_toArray, List.set_cons_zero, List.set_cons_succ]
          refine wpAnyH_take (i := 10) (v := ?_) (by simp only [List.getElem?_toArray, List.getElem?_cons_zero, List.getElem?_cons_succ]; rfl) (by kernel_rfl) (by kernel_rfl) (by kernel_rfl) (by intro _ _ _ h; exact h) (Or.inl ⟨by rfl, ?_⟩) (by assumption) ?_
          rotate_left
          · intro w hSw; (try dsimp only at hSw); go_simp; (try with_reducible rfl)
          simp only [Act.put, List.setIfInBounds_toArray, List.set_cons_zero, List.set_cons_succ]
          refine wpAnyH_ready (rs := [13]) (by kernel_rfl) (by simp) ?_
          refine AllReadyH.cons rfl (fun K hK => ?_) AllReadyH.nil
          go_simp
          go_wp2_with (refine (HT3.out _).mono ?_; rintro e v ⟨rfl, hb⟩; have HQ1 := Lib.hid (bel_go (x := y) HQ1.out hb); clear hb)
          clear hHeld
          refine hK.out _ _ (HK.out _ HQ1.out) (fun hHeld => ?_)
          clear hK K
          refine wpAnyH_take (i := 14) (v := ?_) (by simp only [List.getElem?_toArray, List.getElem?_cons_zero, List.getElem?_cons_succ]; rfl) (by kernel_rfl) (by kernel_rfl) (by kernel_rfl) (by intro _ _ _ h; exact h) (Or.inl ⟨by rfl, ?_⟩) (by assumption) ?_
          rotate_left
          · intro w hSw; (try dsimp only at hSw); go_simp; (try with_reducible rfl)
          simp only [Act.put, List.setIfInBounds_toArray, List.set_cons_zero, List.set_cons_succ]
          refine wpAnyH_take (i := 15) (v := ?_) (by simp only [List.getElem?_toArray, List.getElem?_cons_zero, List.getElem?_cons_succ]; rfl) (by kernel_rfl) (by kernel_rfl) (by kernel_rfl) (by intro _ _ _ h; exact h) (Or.inl ⟨by rfl, ?_⟩) (by assumption) ?_
          rotate_left
          · intro w hSw; (try dsimp only at hSw); go_simp; (try with_reducible rfl)
          simp only [Act.put, List.setIfInBounds_toArray, List.set_cons_zero, List.set_cons_succ]
          refine wpAnyH_done (by kernel_rfl) ?_ _
          have HV := Lib.hid (show _ ∧ _ from ⟨bel_go HY.out HQ1.out, (HK.out _ HQ1.out).2.2.2⟩)
          clear hHeld HQ1 HK HY HD HE n1 n2 n3 n4 n5
          rw [ba_ls]
          obtain ⟨o3, ho3⟩ : ∃ o3, o3 = o2 ++ (s1 ++ ([32] ++ (s2 ++ ([32] ++ s3)))) := ⟨_, rfl⟩
          rw [← ho3]
          have hl : o3.length ≤ 23105 + 80 * j := by rw [ho3]; simp; omega
          have HT := Lib.hid (show txtS S ++ txtL (L.take (j + 1)) = o3 ++ ((if lsF l = true then [32, 102, 114, 101, 101] else []) ++ [59]) by
            rw [HS.out.2, HLs.out, ← List.append_assoc, ← HJ.out.1, ho3]; simp)
          clear ho3 HS HLs HJ hlen hl1 hl2 hl3 HT1 HT2 HT3
          have c3 := HV.out.2
          have HVb := Lib.hid HV.out.1
          clear HV
          cases hf : lsF l with
          | true =>
            rw [hf] at c3 HT
            clear hf
            go_wp2_with fail
            go_roundw
            case rel => exact ⟨j + 1, o3 ++ ([32, 102, 114, 101, 101] ++ [59]), by omega, by go_num, by rw [ba_free], by simp; omega, HT.out.symm, HVb.out⟩
            case measure => simp [intOf]; omega
          | false =>
            rw [hf] at c3 HT
            clear hf
            go_wp2_with fail
            go_roundw
            case rel => exact ⟨j + 1, o3 ++ [59], by omega, by go_num, by rw [show (⟨#[59]⟩ : ByteArray) = ⟨[59].toArray⟩ from rfl, ba_append], by simp; omega, HT.out.symm, HVb.out⟩
            case measure => simp [intOf]; omega
        · obtain rfl : j = L.length := by omega
          go_wp2_with fail
          go_ret
          exact ⟨by rw [HJ.out.1, List.take_length]; rfl, HJ.out.2⟩
end Go.Proofs.Ytmfgffgfggkgcaa
