/-
  The walk of FnAppended: it returns true of every draw.
-/
import Derived.Test.YtmfgffgfggkgcaaAppdP
import Derived.Test.YtmfgffgfggkgcaaFromS
namespace Go.Proofs.Ytmfgffgfggkgcaa
open Go.RowKit
set_option maxHeartbeats 4000000 in
set_option maxRecDepth 100000 in
theorem fnAppended_walk {w : World} (a0 : Option Addr) (len0 cap0 : Nat) (z0 : List Int) (w0 : IsRow w a0 len0 cap0 z0) :
    Calls Try.prog 4 #[.slice a0 len0 cap0] w fun e w' => e = .returned (.bool true) ∧ Below w.heap.size w w' := by
  by_cases hl : len0 ≤ 1048576
  · obtain ⟨xs, hx⟩ := code_of_row w0 hl
    have HX := Lib.hid hx
    clear w0 hx
    go_enter Try.func4, Try.ntmps4
    go_wp2_with fail
    refine (makePool_any _ _ _ _ _ HX.out).mono ?_
    rintro e w1 ⟨S, L, a, ca, b, cb, rfl, ho, hb1⟩
    have HP := Lib.hid (show _ ∧ _ from ⟨VarP.new hb1 ho, (show CodeAt _ a0 len0 xs from ⟨HX.out.1.below (hb1.alloc hb1.size (.cells #[.slice a S.length ca, .slice b L.length cb] 25)), HX.out.2⟩)⟩)
    have hm := ho.le1
    clear ho hb1 HX
    go_upto_region 4 with fail
    generalize w1.alloc (.cells #[.slice a S.length ca, .slice b L.length cb] 25) = y at *
    generalize w1.heap.size = D at *
    obtain ⟨k0, k1, -, -⟩ := HP.out.1.cells
    by_cases h0 : L.length = 0
    · go_wp2_with fail
      go_ret
      exact ⟨rfl, HP.out.1.bel⟩
    · have h1 : (L.length : Int) ≠ 0 := by omega
      go_upto_region 6 with fail
      obtain ⟨x1, hx1⟩ := at_fix a0 len0 cap0 xs 1 HP.out.2 hl (by decide)
      obtain ⟨x2, hx2⟩ := at_fix a0 len0 cap0 xs 2 HP.out.2 hl (by decide)
      obtain ⟨x3, hx3⟩ := at_fix a0 len0 cap0 xs 3 HP.out.2 hl (by decide)
      have HX1 := Lib.hid (fun n => hx1 (y.drewN n) ⟨HP.out.2.1.drewN, HP.out.2.2⟩)
      have HX2 := Lib.hid hx2
      have HX3 := Lib.hid hx3
      clear hx1 hx2 hx3
      go_quiet (exact Calls.quiet_of_same (HX1.out _))
      have HP2 := Lib.hid (show _ ∧ _ from ⟨HP.out.1.keep (below_drewN' (n := nq) (Below.refl _ _)), HP.out.2.keep (below_drewN' (n := nq) (Below.refl _ _))⟩)
      clear k0 k1 HP HX1
      generalize y.drewN nq = y at *
      generalize (x1 : Int) % (L.length : Int) = ti at *
      obtain ⟨k0, k1, -, -⟩ := HP2.out.1.cells
      have HX2 := Lib.hid (fun n => HX2.out (y.drewN n) ⟨HP2.out.2.1.drewN, HP2.out.2.2⟩)
      go_upto_region 7 with fail
      go_quiet (exact Calls.quiet_of_same (HX2.out _))
      have HP := Lib.hid (show _ ∧ _ from ⟨HP2.out.1.keep (below_drewN' (n := nq) (Below.refl _ _)), HP2.out.2.keep (below_drewN' (n := nq) (Below.refl _ _))⟩)
      clear k0 k1 HP2 HX2
      generalize y.drewN nq = y at *
      generalize (x2 : Int) % (L.length : Int) = fi at *
      obtain ⟨k0, k1, -, -⟩ := HP.out.1.cells
      go_wp2_with fail
      refine (HX3.out _ HP.out.2).mono ?_
      rintro e w' ⟨rfl, rfl⟩
      have HP := Lib.hid HP.out.1
      clear HX3
      by_cases h3 : (x3 : Int) % 3 = 0
      · go_upto_region 10 with fail
        clear h3 h1 h0
        go_wp2_with fail
        refine (appendWindow_i _ _ _ S L ti ti _ HP.out.po).mono ?_
        rintro e y4 (⟨hok, a2, c2, b2, d2, rfl, ho, hb⟩ | ⟨hok, rfl, hb⟩)
        · have ho2 := ho.base HP.out.bel.size
          have HQ := Lib.hid (show _ ∧ _ ∧ _ from ⟨(HP.out.keep hb).keep (bel_one _ (.cells #[.slice a2 S.length c2, .slice b2 L.length d2] 25)), VarP.new (bel_go HP.out.bel hb) ho2, hok⟩)
          clear k0 k1 ho ho2 hb hok
          go_upto_region 11 with fail
          clear HP
          generalize y4.alloc (.cells #[.slice a2 S.length c2, .slice b2 L.length d2] 25) = y at *
          generalize y4.heap.size = D2 at *
          obtain ⟨k0, k1, -, -⟩ := HQ.out.1.cells
          go_wp2_with fail
          refine (appendWindow_s _ _ _ S L ti ti _ HQ.out.1.po).mono ?_
          rintro e y5 ⟨S3, L3, a3, c3, b3, d3, rfl, ho3, hb3⟩
          rw [HQ.out.2.2]
          have hb3' := hb3.alloc hb3.size (.cells #[.slice a3 S3.length c3, .slice b3 L3.length d3] 25)
          have HR := Lib.hid (show _ ∧ _ ∧ _ from ⟨HQ.out.1.keep hb3', HQ.out.2.1.keep hb3', HQ.out.2.2⟩)
          clear k0 k1 ho3 hb3 hb3' HQ
          go_upto_region 14 with fail
          generalize y5.alloc (.cells #[.slice a3 S3.length c3, .slice b3 L3.length d3] 25) = y at *
          generalize y5.heap.size = D3 at *
          obtain ⟨k0, k1, -, -⟩ := HR.out.1.cells
          have hlf : lentP S.length L ti = true := by
            have h := HR.out.2.2
            unfold awOk at h
            rw [Bool.and_eq_true] at h
            exact h.1
          have hao : appOk S.length L ti (winP S L ti).length = true := by
            have h := HR.out.2.2
            unfold awOk at h
            rw [Bool.and_eq_true] at h
            exact h.2
          have HA := Lib.hid (show _ ∧ _ from ⟨hlf, hao⟩)
          clear hlf hao
          go_wp2_with fail
          refine (window_s _ _ _ S L ti _ HR.out.1.po).mono ?_
          rintro e y6 (⟨-, d, cd, rfl, hZ, hb6⟩ | ⟨hno, -, -⟩)
          · have HZw := Lib.hid (winP_wf (S := S) (L := L) (id := ti) HR.out.1.po.wf)
            have HZn := Lib.hid (show (winP S L ti).length ≤ S.length ∧ S.length ≤ 256 from ⟨winP_le, HR.out.1.po.le0⟩)
            have HW := Lib.hid (show _ ∧ _ ∧ _ from ⟨HR.out.1.keep hb6, HR.out.2.1.keep hb6, hZ.base HR.out.1.bel.size⟩)
            clear hZ hb6 k0 k1 HR
            generalize winP S L ti = Z at *
            obtain ⟨m, hmZ⟩ : ∃ m, m = Z.length := ⟨_, rfl⟩
            rw [← hmZ] at HW HZn HA ⊢
            have HM := Lib.hid hmZ
            clear hmZ
            obtain ⟨k0, k1, -, -⟩ := HW.out.1.cells
            go_upto_region 16 with fail
            have HV := Lib.hid (show _ ∧ _ ∧ _ from ⟨HW.out.2.1.keep (bel_one y6 (.cells #[.slice a S.length ca, .slice b L.length cb] 25)), VarP.new HW.out.1.bel HW.out.1.po, HW.out.2.2.below (bel_one y6 (.cells #[.slice a S.length ca, .slice b L.length cb] 25))⟩)
            have HD24 := Lib.hid (show D2 ≠ y6.heap.size from fun e => by have := HW.out.2.1.lt; omega)
            clear HW k0 k1
            generalize y6.alloc (.cells #[.slice a S.length ca, .slice b L.length cb] 25) = y at *
            generalize y6.heap.size = D4 at *
            go_wp2_with fail
            have hm256 : m ≤ 256 := by have := HZn.out; omega
            go_loopw [76] (fun t wr => ∃ (i : Nat) (Si : List (Nat × Nat)) (a4 : Option Addr) (c4 : Nat) (b4 : Option Addr) (d4 : Nat), i ≤ m ∧ t = .int .i64 i ∧ Si.length = S.length ∧ putS Si (endAt L ti + i) (Z.drop i) = appS S L ti Z ∧
                VarP w D2 (.slice a2 S.length c2) (.slice b2 L.length d2) (appS S L ti Z) (moreL L ti m) wr ∧ VarP w D4 (.slice a4 S.length c4) (.slice b4 L.length d4) Si (moreL L ti i) wr ∧ OR wr w.heap.size 37 1 (.slice d m cd) m (Z.map cx)) (fun t _ => m - (intOf t).toNat)
            case atStart => exact ⟨0, S, a, ca, b, cb, by omega, rfl, rfl, rfl, HV.out.1, by rw [more_zero HA.out.2]; exact HV.out.2.1, HV.out.2.2⟩
            case round =>
              clear HV
              obtain ⟨i, Si, a4, c4, b4, d4, hi, rfl, hSl, hput, hv2, hv4, hor⟩ := hrel
              have HV := Lib.hid (show _ ∧ _ ∧ _ ∧ _ ∧ _ from ⟨hv2, hv4, hor, hSl, hput⟩)
              obtain ⟨k0, k1, k2, k3⟩ := hv4.cells
              clear hv2 hv4 hor hSl hput
              by_cases hlt : (i : Int) < (m : Int)
              · have him : i < m := by omega
                have hiZ : i < Z.length := by have := HM.out; omega
                obtain ⟨g, rfl, -, c0⟩ := samp_cell (i := i) HV.out.2.2.1 hiZ
                have HZi := Lib.hid (show _ ∧ _ ∧ _ from ⟨HZw.out _ (List.getElem_mem hiZ), appS_step HA.out.2 hiZ HV.out.2.2.2.2, appOk_more HA.out.2 him⟩)
                generalize Z[i] = z at *
                go_upto_region 19 with fail
                have HL := Lib.hid (show _ ∧ _ ∧ _ ∧ _ from ⟨HV.out.1.keep (bel_one _ (.cells #[.complex .f32 z.1 z.2] 37)), HV.out.2.1.keep (bel_one _ (.cells #[.complex .f32 z.1 z.2] 37)), HV.out.2.2.1.below (bel_one _ (.cells #[.complex .f32 z.1 z.2] 37)), lit_one wr w.heap.size HV.out.1.bel.size z⟩)
                go_wp2_with fail
                refine (append_i w.heap.size w.heap.size _ _ Si (moreL L ti i) ti _ 1 1 [z] _ HL.out.2.1.po HL.out.2.2.2 (fun p hp => by rw [List.mem_singleton] at hp; rw [hp]; exact HZi.out.1) (by decide)).mono ?_
                rintro e y7 (⟨-, a5, c5, b5, d5, rfl, ho7, hb7⟩ | ⟨hno, -, -⟩)
                · rw [HV.out.2.2.2.1, moreL_len] at ho7 ⊢
                  have ho8 := ho7.base HL.out.1.bel.size
                  have hb8 := hb7.alloc hb7.size (.cells #[.slice a5 S.length c5, .slice b5 L.length d5] 25)
                  have HN := Lib.hid (show _ ∧ _ ∧ _ ∧ _ from ⟨HL.out.1.keep hb8, HL.out.2.1.keep hb8, HL.out.2.2.1.below hb8, ho8.below (bel_one y7 (.cells #[.slice a5 S.length c5, .slice b5 L.length d5] 25))⟩)
                  have hE := heap_new y7 (.cells #[.slice a5 S.length c5, .slice b5 L.length d5] 25)
                  clear ho7 ho8 hb7 hb8 HL k0 k1 k2 k3 c0
                  go_upto_region 22 with fail
                  generalize y7.alloc (.cells #[.slice a5 S.length c5, .slice b5 L.length d5] 25) = y at *
                  generalize y7.heap.size = E at *
                  have e0 := cell_of_row _ _ 0 _ _ _ hE
                  have e1 := cell_of_row _ _ 1 _ _ _ hE
                  simp only [List.getElem?_toArray] at e0 e1
                  clear hE
                  obtain ⟨k0, k1, k2, k3⟩ := HN.out.2.1.cells
                  have HF := Lib.hid (show _ ∧ _ ∧ _ from ⟨HN.out.1.other HN.out.2.1.row HN.out.2.1.hD HD24.out (.slice a5 S.length c5) (.slice b5 L.length d5), HN.out.2.1.store HN.out.2.2.2, HN.out.2.2.1.set2 (a := .slice a5 S.length c5) (b := .slice b5 L.length d5) HN.out.2.1.row (by decide)⟩)
                  have HS := Lib.hid (show (appS Si (moreL L ti i) ti [z]).length = S.length from by unfold appS; rw [putS_len]; exact HV.out.2.2.2.1)
                  go_wp2_with fail
                  go_roundw
                  case rel => exact ⟨i + 1, appS Si (moreL L ti i) ti [z], a5, c5, b5, d5, by omega, by go_num, HS.out, HZi.out.2.1.1, HF.out.1, by rw [← HZi.out.2.1.2]; exact HF.out.2.1, HF.out.2.2⟩
                  case measure => simp [intOf]; omega
                · rw [HV.out.2.2.2.1, List.length_singleton, HZi.out.2.2] at hno
                  cases hno
              · obtain rfl : i = m := by omega
                go_upto_region 24 with fail
                have hSi : Si = appS S L ti Z := by
                  have h := HV.out.2.2.2.2
                  rw [HM.out, List.drop_length] at h
                  exact h
                subst hSi
                clear k0 k1 k2 k3 hlt hi
                have HV := Lib.hid (show _ ∧ _ from ⟨HV.out.1, HV.out.2.1⟩)
                have HIs := Lib.hid (show isPoolP (appS S L ti Z).length (moreL L ti i) = true by rw [show (appS S L ti Z).length = S.length from by unfold appS; rw [putS_len]]; exact pool_more HA.out.2)
                have HSm := Lib.hid (small_of_pool HIs.out)
                have HK := Lib.hid (fun W (h : Below wr.heap.size wr W) => (show W.cell? ⟨D2, 0, none⟩ = some (.slice a2 S.length c2) ∧ W.cell? ⟨D2, 1, none⟩ = some (.slice b2 L.length d2) ∧ W.cell? ⟨D4, 0, none⟩ = some (.slice a4 S.length c4) ∧ W.cell? ⟨D4, 1, none⟩ = some (.slice b4 L.length d4) from
                  ⟨(HV.out.1.keep h).cells.1, (HV.out.1.keep h).cells.2.1, (HV.out.2.keep h).cells.1, (HV.out.2.keep h).cells.2.1⟩))
                have HD := Lib.hid (show Below wr.heap.size wr wr.drew from (Below.refl _ _).drew)
                refine wp_region_held_drew (S := fun W => W.cell? ⟨D2, 0, none⟩ = some (.slice a2 S.length c2) ∧ W.cell? ⟨D2, 1, none⟩ = some (.slice b2 L.length d2) ∧ W.cell? ⟨D4, 0, none⟩ = some (.slice a4 S.length c4) ∧ W.cell? ⟨D4, 1, none⟩ = some (.slice b4 L.length d4)) (by kernel_rfl) (HK.out _ HD.out) (fun hHeld => ?_)
                refine wpAnyH_take (i := 0) (v := ?_) (by simp only [List.getElem?_toArray, List.getElem?_cons_zero]; rfl) (by kernel_rfl) (by kernel_rfl) (by kernel_rfl) (by intro _ _ _ h; exact h) (Or.inl ⟨by rfl, ?_⟩) (by assumption) ?_
                rotate_left
                · intro w hSw; (try dsimp only at hSw); go_simp; (try with_reducible rfl)
                simp only [Act.put, List.setIfInBounds_toArray, List.set_cons_zero, List.set_cons_succ]
                refine wpAnyH_take (i := 1) (v := ?_) (by simp only [List.getElem?_toArray, List.getElem?_cons_zero, List.getElem?_cons_succ]; rfl) (by kernel_rfl) (by kernel_rfl) (by kernel_rfl) (by intro _ _ _ h; exact h) (Or.inl ⟨by rfl, ?_⟩) (by assumption) ?_
                rotate_left
                · intro w hSw; (try dsimp only at hSw); go_simp; (try with_reducible rfl)
                simp only [Act.put, List.setIfInBounds_toArray, List.set_cons_zero, List.set_cons_succ]
                refine wpAnyH_take (i := 2) (v := ?_) (by simp only [List.getElem?_toArray, List.getElem?_cons_zero, List.getElem?_cons_succ]; rfl) (by kernel_rfl) (by kernel_rfl) (by kernel_rfl) (by intro _ _ _ h; exact h) (Or.inl ⟨by rfl, ?_⟩) (by assumption) ?_
                rotate_left
                · intro w hSw; (try dsimp only at hSw); go_simp; (try with_reducible rfl)
                simp only [Act.put, List.setIfInBounds_toArray, List.set_cons_zero, List.set_cons_succ]
                refine wpAnyH_ready (rs := [3]) (by kernel_rfl) (by simp) ?_
                refine AllReadyH.cons rfl (fun K hK => ?_) AllReadyH.nil
                go_simp
                go_wp2_with (refine (isPool_s w.heap.size _ _ (appS S L ti Z) (moreL L ti i) _ (HV.out.1.keep HD.out).po).mono ?_; rintro e v ⟨rfl, hb⟩; rw [HIs.out]; have HQ1 := Lib.hid (bel_go (x := wr) HD.out hb); clear hb)
                clear hHeld
                refine hK.out _ _ (HK.out _ HQ1.out) (fun hHeld => ?_)
                clear hK K
                refine wpAnyH_take (i := 4) (v := ?_) (by simp only [List.getElem?_toArray, List.getElem?_cons_zero, List.getElem?_cons_succ]; rfl) (by kernel_rfl) (by kernel_rfl) (by kernel_rfl) (by intro _ _ _ h; exact h) (Or.inl ⟨by rfl, ?_⟩) (by assumption) ?_
                rotate_left
                · intro w hSw; (try dsimp only at hSw); go_simp; (try with_reducible rfl)
                simp only [Act.put, List.setIfInBounds_toArray, List.set_cons_zero, List.set_cons_succ]
                refine wpAnyH_take (i := 5) (v := ?_) (by simp only [List.getElem?_toArray, List.getElem?_cons_zero, List.getElem?_cons_succ]; rfl) (by kernel_rfl) (by kernel_rfl) (by kernel_rfl) (by intro _ _ _ h; exact h) (Or.inl ⟨by rfl, ?_⟩) (by assumption) ?_
                rotate_left
                · intro w hSw; (try dsimp only at hSw); go_simp; (try with_reducible rfl)
                simp only [Act.put, List.setIfInBounds_toArray, List.set_cons_zero, List.set_cons_succ]
                refine wpAnyH_take (i := 6) (v := ?_) (by simp only [List.getElem?_toArray, List.getElem?_cons_zero, List.getElem?_cons_succ]; rfl) (by kernel_rfl) (by kernel_rfl) (by kernel_rfl) (by intro _ _ _ h; exact h) (Or.inl ⟨by rfl, ?_⟩) (by assumption) ?_
                rotate_left
                · intro w hSw; (try dsimp only at hSw); go_simp; (try with_reducible rfl)
                simp only [Act.put, List.setIfInBounds_toArray, List.set_cons_zero, List.set_cons_succ]
                refine wpAnyH_take (i := 8) (v := ?_) (by simp only [List.getElem?_toArray, List.getElem?_cons_zero, List.getElem?_cons_succ]; rfl) (by kernel_rfl) (by kernel_rfl) (by kernel_rfl) (by intro _ _ _ h; exact h) (Or.inl ⟨by rfl, ?_⟩) (by assumption) ?_
                rotate_left
                · intro w hSw; (try dsimp only at hSw); go_simp; (try with_reducible rfl)
                simp only [Act.put, List.setIfInBounds_toArray, List.set_cons_zero, List.set_cons_succ]
                refine wpAnyH_ready (rs := [7]) (by kernel_rfl) (by simp) ?_
                refine AllReadyH.cons rfl (fun K hK => ?_) AllReadyH.nil
                go_simp
                go_wp2_with (refine (poolText_s w.heap.size _ _ (appS S L ti Z) (moreL L ti i) _ (HV.out.1.keep HQ1.out).po HSm.out).mono ?_; rintro e v ⟨rfl, hb⟩; have HQ2 := Lib.hid (bel_go (x := wr) HQ1.out hb); clear hb)
                clear hHeld
                refine hK.out _ _ (HK.out _ HQ2.out) (fun hHeld => ?_)
                clear hK K
                refine wpAnyH_ready (rs := [9]) (by kernel_rfl) (by simp) ?_
                refine AllReadyH.cons rfl (fun K hK => ?_) AllReadyH.nil
                go_simp
                go_wp2_with (refine (poolText_s w.heap.size _ _ (appS S L ti Z) (moreL L ti i) _ (HV.out.2.keep HQ2.out).po HSm.out).mono ?_; rintro e v ⟨rfl, hb⟩; have HQ3 := Lib.hid (bel_go (x := wr) HQ2.out hb); clear hb)
                clear hHeld
                refine hK.out _ _ (HK.out _ HQ3.out) (fun hHeld => ?_)
                clear hK K
                refine wpAnyH_take (i := 10) (v := ?_) (by simp only [List.getElem?_toArray, List.getElem?_cons_zero, List.getElem?_cons_succ]; rfl) (by kernel_rfl) (by kernel_rfl) (by kernel_rfl) (by intro _ _ _ h; exact h) (Or.inl ⟨by rfl, ?_⟩) (by assumption) ?_
                rotate_left
                · intro w hSw; (try dsimp only at hSw); go_simp; (try with_reducible rfl)
                simp only [Act.put, List.setIfInBounds_toArray, List.set_cons_zero, List.set_cons_succ]
                refine wpAnyH_take (i := 11) (v := ?_) (by simp only [List.getElem?_toArray, List.getElem?_cons_zero, List.getElem?_cons_succ]; rfl) (by kernel_rfl) (by kernel_rfl) (by kernel_rfl) (by intro _ _ _ h; exact h) (Or.inl ⟨by rfl, ?_⟩) (by assumption) ?_
                rotate_left
                · intro w hSw; (try dsimp only at hSw); go_simp; (try with_reducible rfl)
                simp only [Act.put, List.setIfInBounds_toArray, List.set_cons_zero, List.set_cons_succ]
                refine wpAnyH_take (i := 12) (v := ?_) (by simp only [List.getElem?_toArray, List.getElem?_cons_zero, List.getElem?_cons_succ]; rfl) (by kernel_rfl) (by kernel_rfl) (by kernel_rfl) (by intro _ _ _ h; exact h) (Or.inl ⟨by rfl, ?_⟩) (by assumption) ?_
                rotate_left
                · intro w hSw; (try dsimp only at hSw); go_simp; (try with_reducible rfl)
                simp only [Act.put, List.setIfInBounds_toArray, List.set_cons_zero, List.set_cons_succ]
                refine wpAnyH_done (by kernel_rfl) ?_ _
                clear hHeld HK
                go_wp2_with fail
                go_ret
                exact ⟨rfl, bel_go HV.out.1.bel HQ3.out⟩
          · rw [HA.out.1] at hno
            cases hno
        · have HQ := Lib.hid (show _ ∧ _ from ⟨(HP.out.keep hb).keep (bel_one _ (.cells #[.slice none 0 0, .slice none 0 0] 25)), hok⟩)
          clear k0 k1 hb hok
          obtain ⟨k0, k1, -, -⟩ := HQ.out.1.cells
          go_wp2_with fail
          refine (appendWindow_s _ _ _ S L ti ti _ HQ.out.1.po).mono ?_
          rintro e y5 ⟨S3, L3, a3, c3, b3, d3, rfl, ho3, hb3⟩
          rw [HQ.out.2]
          have HR := Lib.hid ((bel_go HQ.out.1.bel hb3).alloc (bel_go HQ.out.1.bel hb3).size (.cells #[.slice a3 S3.length c3, .slice b3 L3.length d3] 25))
          clear k0 k1 ho3 hb3
          go_wp2_with fail
          go_ret
          exact ⟨rfl, HR.out⟩
      · go_upto_region 10 with fail
        clear h3 h1 h0
        go_wp2_with fail
        refine (appendWindow_i _ _ _ S L ti fi _ HP.out.po).mono ?_
        rintro e y4 (⟨hok, a2, c2, b2, d2, rfl, ho, hb⟩ | ⟨hok, rfl, hb⟩)
        · have ho2 := ho.base HP.out.bel.size
          have HQ := Lib.hid (show _ ∧ _ ∧ _ from ⟨(HP.out.keep hb).keep (bel_one _ (.cells #[.slice a2 S.length c2, .slice b2 L.length d2] 25)), VarP.new (bel_go HP.out.bel hb) ho2, hok⟩)
          clear k0 k1 ho ho2 hb hok
          go_upto_region 11 with fail
          clear HP
          generalize y4.alloc (.cells #[.slice a2 S.length c2, .slice b2 L.length d2] 25) = y at *
          generalize y4.heap.size = D2 at *
          obtain ⟨k0, k1, -, -⟩ := HQ.out.1.cells
          go_wp2_with fail
          refine (appendWindow_s _ _ _ S L ti fi _ HQ.out.1.po).mono ?_
          rintro e y5 ⟨S3, L3, a3, c3, b3, d3, rfl, ho3, hb3⟩
          rw [HQ.out.2.2]
          have hb3' := hb3.alloc hb3.size (.cells #[.slice a3 S3.length c3, .slice b3 L3.length d3] 25)
          have HR := Lib.hid (show _ ∧ _ ∧ _ from ⟨HQ.out.1.keep hb3', HQ.out.2.1.keep hb3', HQ.out.2.2⟩)
          clear k0 k1 ho3 hb3 hb3' HQ
          go_upto_region 14 with fail
          generalize y5.alloc (.cells #[.slice a3 S3.length c3, .slice b3 L3.length d3] 25) = y at *
          generalize y5.heap.size = D3 at *
          obtain ⟨k0, k1, -, -⟩ := HR.out.1.cells
          have hlf : lentP S.length L fi = true := by
            have h := HR.out.2.2
            unfold awOk at h
            rw [Bool.and_eq_true] at h
            exact h.1
          have hao : appOk S.length L ti (winP S L fi).length = true := by
            have h := HR.out.2.2
            unfold awOk at h
            rw [Bool.and_eq_true] at h
            exact h.2
          have HA := Lib.hid (show _ ∧ _ from ⟨hlf, hao⟩)
          clear hlf hao
          go_wp2_with fail
          refine (window_s _ _ _ S L fi _ HR.out.1.po).mono ?_
          rintro e y6 (⟨-, d, cd, rfl, hZ, hb6⟩ | ⟨hno, -, -⟩)
          · have HZw := Lib.hid (winP_wf (S := S) (L := L) (id := fi) HR.out.1.po.wf)
            have HZn := Lib.hid (show (winP S L fi).length ≤ S.length ∧ S.length ≤ 256 from ⟨winP_le, HR.out.1.po.le0⟩)
            have HW := Lib.hid (show _ ∧ _ ∧ _ from ⟨HR.out.1.keep hb6, HR.out.2.1.keep hb6, hZ.base HR.out.1.bel.size⟩)
            clear hZ hb6 k0 k1 HR
            generalize winP S L fi = Z at *
            obtain ⟨m, hmZ⟩ : ∃ m, m = Z.length := ⟨_, rfl⟩
            rw [← hmZ] at HW HZn HA ⊢
            have HM := Lib.hid hmZ
            clear hmZ
            obtain ⟨k0, k1, -, -⟩ := HW.out.1.cells
            go_upto_region 16 with fail
            have HV := Lib.hid (show _ ∧ _ ∧ _ from ⟨HW.out.2.1.keep (bel_one y6 (.cells #[.slice a S.length ca, .slice b L.length cb] 25)), VarP.new HW.out.1.bel HW.out.1.po, HW.out.2.2.below (bel_one y6 (.cells #[.slice a S.length ca, .slice b L.length cb] 25))⟩)
            have HD24 := Lib.hid (show D2 ≠ y6.heap.size from fun e => by have := HW.out.2.1.lt; omega)
            clear HW k0 k1
            generalize y6.alloc (.cells #[.slice a S.length ca, .slice b L.length cb] 25) = y at *
            generalize y6.heap.size = D4 at *
            go_wp2_with fail
            have hm256 : m ≤ 256 := by have := HZn.out; omega
            go_loopw [76] (fun t wr => ∃ (i : Nat) (Si : List (Nat × Nat)) (a4 : Option Addr) (c4 : Nat) (b4 : Option Addr) (d4 : Nat), i ≤ m ∧ t = .int .i64 i ∧ Si.length = S.length ∧ putS Si (endAt L ti + i) (Z.drop i) = appS S L ti Z ∧
                VarP w D2 (.slice a2 S.length c2) (.slice b2 L.length d2) (appS S L ti Z) (moreL L ti m) wr ∧ VarP w D4 (.slice a4 S.length c4) (.slice b4 L.length d4) Si (moreL L ti i) wr ∧ OR wr w.heap.size 37 1 (.slice d m cd) m (Z.map cx)) (fun t _ => m - (intOf t).toNat)
            case atStart => exact ⟨0, S, a, ca, b, cb, by omega, rfl, rfl, rfl, HV.out.1, by rw [more_zero HA.out.2]; exact HV.out.2.1, HV.out.2.2⟩
            case round =>
              clear HV
              obtain ⟨i, Si, a4, c4, b4, d4, hi, rfl, hSl, hput, hv2, hv4, hor⟩ := hrel
              have HV := Lib.hid (show _ ∧ _ ∧ _ ∧ _ ∧ _ from ⟨hv2, hv4, hor, hSl, hput⟩)
              obtain ⟨k0, k1, k2, k3⟩ := hv4.cells
              clear hv2 hv4 hor hSl hput
              by_cases hlt : (i : Int) < (m : Int)
              · have him : i < m := by omega
                have hiZ : i < Z.length := by have := HM.out; omega
                obtain ⟨g, rfl, -, c0⟩ := samp_cell (i := i) HV.out.2.2.1 hiZ
                have HZi := Lib.hid (show _ ∧ _ ∧ _ from ⟨HZw.out _ (List.getElem_mem hiZ), appS_step HA.out.2 hiZ HV.out.2.2.2.2, appOk_more HA.out.2 him⟩)
                generalize Z[i] = z at *
                go_upto_region 19 with fail
                have HL := Lib.hid (show _ ∧ _ ∧ _ ∧ _ from ⟨HV.out.1.keep (bel_one _ (.cells #[.complex .f32 z.1 z.2] 37)), HV.out.2.1.keep (bel_one _ (.cells #[.complex .f32 z.1 z.2] 37)), HV.out.2.2.1.below (bel_one _ (.cells #[.complex .f32 z.1 z.2] 37)), lit_one wr w.heap.size HV.out.1.bel.size z⟩)
                go_wp2_with fail
                refine (append_i w.heap.size w.heap.size _ _ Si (moreL L ti i) ti _ 1 1 [z] _ HL.out.2.1.po HL.out.2.2.2 (fun p hp => by rw [List.mem_singleton] at hp; rw [hp]; exact HZi.out.1) (by decide)).mono ?_
                rintro e y7 (⟨-, a5, c5, b5, d5, rfl, ho7, hb7⟩ | ⟨hno, -, -⟩)
                · rw [HV.out.2.2.2.1, moreL_len] at ho7 ⊢
                  have ho8 := ho7.base HL.out.1.bel.size
                  have hb8 := hb7.alloc hb7.size (.cells #[.slice a5 S.length c5, .slice b5 L.length d5] 25)
                  have HN := Lib.hid (show _ ∧ _ ∧ _ ∧ _ from ⟨HL.out.1.keep hb8, HL.out.2.1.keep hb8, HL.out.2.2.1.below hb8, ho8.below (bel_one y7 (.cells #[.slice a5 S.length c5, .slice b5 L.length d5] 25))⟩)
                  have hE := heap_new y7 (.cells #[.slice a5 S.length c5, .slice b5 L.length d5] 25)
                  clear ho7 ho8 hb7 hb8 HL k0 k1 k2 k3 c0
                  go_upto_region 22 with fail
                  generalize y7.alloc (.cells #[.slice a5 S.length c5, .slice b5 L.length d5] 25) = y at *
                  generalize y7.heap.size = E at *
                  have e0 := cell_of_row _ _ 0 _ _ _ hE
                  have e1 := cell_of_row _ _ 1 _ _ _ hE
                  simp only [List.getElem?_toArray] at e0 e1
                  clear hE
                  obtain ⟨k0, k1, k2, k3⟩ := HN.out.2.1.cells
                  have HF := Lib.hid (show _ ∧ _ ∧ _ from ⟨HN.out.1.other HN.out.2.1.row HN.out.2.1.hD HD24.out (.slice a5 S.length c5) (.slice b5 L.length d5), HN.out.2.1.store HN.out.2.2.2, HN.out.2.2.1.set2 (a := .slice a5 S.length c5) (b := .slice b5 L.length d5) HN.out.2.1.row (by decide)⟩)
                  have HS := Lib.hid (show (appS Si (moreL L ti i) ti [z]).length = S.length from by unfold appS; rw [putS_len]; exact HV.out.2.2.2.1)
                  go_wp2_with fail
                  go_roundw
                  case rel => exact ⟨i + 1, appS Si (moreL L ti i) ti [z], a5, c5, b5, d5, by omega, by go_num, HS.out, HZi.out.2.1.1, HF.out.1, by rw [← HZi.out.2.1.2]; exact HF.out.2.1, HF.out.2.2⟩
                  case measure => simp [intOf]; omega
                · rw [HV.out.2.2.2.1, List.length_singleton, HZi.out.2.2] at hno
                  cases hno
              · obtain rfl : i = m := by omega
                go_upto_region 24 with fail
                have hSi : Si = appS S L ti Z := by
                  have h := HV.out.2.2.2.2
                  rw [HM.out, List.drop_length] at h
                  exact h
                subst hSi
                clear k0 k1 k2 k3 hlt hi
                have HV := Lib.hid (show _ ∧ _ from ⟨HV.out.1, HV.out.2.1⟩)
                have HIs := Lib.hid (show isPoolP (appS S L ti Z).length (moreL L ti i) = true by rw [show (appS S L ti Z).length = S.length from by unfold appS; rw [putS_len]]; exact pool_more HA.out.2)
                have HSm := Lib.hid (small_of_pool HIs.out)
                have HK := Lib.hid (fun W (h : Below wr.heap.size wr W) => (show W.cell? ⟨D2, 0, none⟩ = some (.slice a2 S.length c2) ∧ W.cell? ⟨D2, 1, none⟩ = some (.slice b2 L.length d2) ∧ W.cell? ⟨D4, 0, none⟩ = some (.slice a4 S.length c4) ∧ W.cell? ⟨D4, 1, none⟩ = some (.slice b4 L.length d4) from
                  ⟨(HV.out.1.keep h).cells.1, (HV.out.1.keep h).cells.2.1, (HV.out.2.keep h).cells.1, (HV.out.2.keep h).cells.2.1⟩))
                have HD := Lib.hid (show Below wr.heap.size wr wr.drew from (Below.refl _ _).drew)
                refine wp_region_held_drew (S := fun W => W.cell? ⟨D2, 0, none⟩ = some (.slice a2 S.length c2) ∧ W.cell? ⟨D2, 1, none⟩ = some (.slice b2 L.length d2) ∧ W.cell? ⟨D4, 0, none⟩ = some (.slice a4 S.length c4) ∧ W.cell? ⟨D4, 1, none⟩ = some (.slice b4 L.length d4)) (by kernel_rfl) (HK.out _ HD.out) (fun hHeld => ?_)
                refine wpAnyH_take (i := 0) (v := ?_) (by simp only [List.getElem?_toArray, List.getElem?_cons_zero]; rfl) (by kernel_rfl) (by kernel_rfl) (by kernel_rfl) (by intro _ _ _ h; exact h) (Or.inl ⟨by rfl, ?_⟩) (by assumption) ?_
                rotate_left
                · intro w hSw; (try dsimp only at hSw); go_simp; (try with_reducible rfl)
                simp only [Act.put, List.setIfInBounds_toArray, List.set_cons_zero, List.set_cons_succ]
                refine wpAnyH_take (i := 1) (v := ?_) (by simp only [List.getElem?_toArray, List.getElem?_cons_zero, List.getElem?_cons_succ]; rfl) (by kernel_rfl) (by kernel_rfl) (by kernel_rfl) (by intro _ _ _ h; exact h) (Or.inl ⟨by rfl, ?_⟩) (by assumption) ?_
                rotate_left
                · intro w hSw; (try dsimp only at hSw); go_simp; (try with_reducible rfl)
                simp only [Act.put, List.setIfInBounds_toArray, List.set_cons_zero, List.set_cons_succ]
                refine wpAnyH_take (i := 2) (v := ?_) (by simp only [List.getElem?_toArray, List.getElem?_cons_zero, List.getElem?_cons_succ]; rfl) (by kernel_rfl) (by kernel_rfl) (by kernel_rfl) (by intro _ _ _ h; exact h) (Or.inl ⟨by rfl, ?_⟩) (by assumption) ?_
                rotate_left
                · intro w hSw; (try dsimp only at hSw); go_simp; (try with_reducible rfl)
                simp only [Act.put, List.setIfInBounds_toArray, List.set_cons_zero, List.set_cons_succ]
                refine wpAnyH_ready (rs := [3]) (by kernel_rfl) (by simp) ?_
                refine AllReadyH.cons rfl (fun K hK => ?_) AllReadyH.nil
                go_simp
                go_wp2_with (refine (isPool_s w.heap.size _ _ (appS S L ti Z) (moreL L ti i) _ (HV.out.1.keep HD.out).po).mono ?_; rintro e v ⟨rfl, hb⟩; rw [HIs.out]; have HQ1 := Lib.hid (bel_go (x := wr) HD.out hb); clear hb)
                clear hHeld
                refine hK.out _ _ (HK.out _ HQ1.out) (fun hHeld => ?_)
                clear hK K
                refine wpAnyH_take (i := 4) (v := ?_) (by simp only [List.getElem?_toArray, List.getElem?_cons_zero, List.getElem?_cons_succ]; rfl) (by kernel_rfl) (by kernel_rfl) (by kernel_rfl) (by intro _ _ _ h; exact h) (Or.inl ⟨by rfl, ?_⟩) (by assumption) ?_
                rotate_left
                · intro w hSw; (try dsimp only at hSw); go_simp; (try with_reducible rfl)
                simp only [Act.put, List.setIfInBounds_toArray, List.set_cons_zero, List.set_cons_succ]
                refine wpAnyH_take (i := 5) (v := ?_) (by simp only [List.getElem?_toArray, List.getElem?_cons_zero, List.getElem?_cons_succ]; rfl) (by kernel_rfl) (by kernel_rfl) (by kernel_rfl) (by intro _ _ _ h; exact h) (Or.inl ⟨by rfl, ?_⟩) (by assumption) ?_
                rotate_left
                · intro w hSw; (try dsimp only at hSw); go_simp; (try with_reducible rfl)
                simp only [Act.put, List.setIfInBounds_toArray, List.set_cons_zero, List.set_cons_succ]
                refine wpAnyH_take (i := 6) (v := ?_) (by simp only [List.getElem?_toArray, List.getElem?_cons_zero, List.getElem?_cons_succ]; rfl) (by kernel_rfl) (by kernel_rfl) (by kernel_rfl) (by intro _ _ _ h; exact h) (Or.inl ⟨by rfl, ?_⟩) (by assumption) ?_
                rotate_left
                · intro w hSw; (try dsimp only at hSw); go_simp; (try with_reducible rfl)
                simp only [Act.put, List.setIfInBounds_toArray, List.set_cons_zero, List.set_cons_succ]
                refine wpAnyH_take (i := 8) (v := ?_) (by simp only [List.getElem?_toArray, List.getElem?_cons_zero, List.getElem?_cons_succ]; rfl) (by kernel_rfl) (by kernel_rfl) (by kernel_rfl) (by intro _ _ _ h; exact h) (Or.inl ⟨by rfl, ?_⟩) (by assumption) ?_
                rotate_left
                · intro w hSw; (try dsimp only at hSw); go_simp; (try with_reducible rfl)
                simp only [Act.put, List.setIfInBounds_toArray, List.set_cons_zero, List.set_cons_succ]
                refine wpAnyH_ready (rs := [7]) (by kernel_rfl) (by simp) ?_
                refine AllReadyH.cons rfl (fun K hK => ?_) AllReadyH.nil
                go_simp
                go_wp2_with (refine (poolText_s w.heap.size _ _ (appS S L ti Z) (moreL L ti i) _ (HV.out.1.keep HQ1.out).po HSm.out).mono ?_; rintro e v ⟨rfl, hb⟩; have HQ2 := Lib.hid (bel_go (x := wr) HQ1.out hb); clear hb)
                clear hHeld
                refine hK.out _ _ (HK.out _ HQ2.out) (fun hHeld => ?_)
                clear hK K
                refine wpAnyH_ready (rs := [9]) (by kernel_rfl) (by simp) ?_
                refine AllReadyH.cons rfl (fun K hK => ?_) AllReadyH.nil
                go_simp
                go_wp2_with (refine (poolText_s w.heap.size _ _ (appS S L ti Z) (moreL L ti i) _ (HV.out.2.keep HQ2.out).po HSm.out).mono ?_; rintro e v ⟨rfl, hb⟩; have HQ3 := Lib.hid (bel_go (x := wr) HQ2.out hb); clear hb)
                clear hHeld
                refine hK.out _ _ (HK.out _ HQ3.out) (fun hHeld => ?_)
                clear hK K
                refine wpAnyH_take (i := 10) (v := ?_) (by simp only [List.getElem?_toArray, List.getElem?_cons_zero, List.getElem?_cons_succ]; rfl) (by kernel_rfl) (by kernel_rfl) (by kernel_rfl) (by intro _ _ _ h; exact h) (Or.inl ⟨by rfl, ?_⟩) (by assumption) ?_
                rotate_left
                · intro w hSw; (try dsimp only at hSw); go_simp; (try with_reducible rfl)
                simp only [Act.put, List.setIfInBounds_toArray, List.set_cons_zero, List.set_cons_succ]
                refine wpAnyH_take (i := 11) (v := ?_) (by simp only [List.getElem?_toArray, List.getElem?_cons_zero, List.getElem?_cons_succ]; rfl) (by kernel_rfl) (by kernel_rfl) (by kernel_rfl) (by intro _ _ _ h; exact h) (Or.inl ⟨by rfl, ?_⟩) (by assumption) ?_
                rotate_left
                · intro w hSw; (try dsimp only at hSw); go_simp; (try with_reducible rfl)
                simp only [Act.put, List.setIfInBounds_toArray, List.set_cons_zero, List.set_cons_succ]
                refine wpAnyH_take (i := 12) (v := ?_) (by simp only [List.getElem?_toArray, List.getElem?_cons_zero, List.getElem?_cons_succ]; rfl) (by kernel_rfl) (by kernel_rfl) (by kernel_rfl) (by intro _ _ _ h; exact h) (Or.inl ⟨by rfl, ?_⟩) (by assumption) ?_
                rotate_left
                · intro w hSw; (try dsimp only at hSw); go_simp; (try with_reducible rfl)
                simp only [Act.put, List.setIfInBounds_toArray, List.set_cons_zero, List.set_cons_succ]
                refine wpAnyH_done (by kernel_rfl) ?_ _
                clear hHeld HK
                go_wp2_with fail
                go_ret
                exact ⟨rfl, bel_go HV.out.1.bel HQ3.out⟩
          · rw [HA.out.1] at hno
            cases hno
        · have HQ := Lib.hid (show _ ∧ _ from ⟨(HP.out.keep hb).keep (bel_one _ (.cells #[.slice none 0 0, .slice none 0 0] 25)), hok⟩)
          clear k0 k1 hb hok
          obtain ⟨k0, k1, -, -⟩ := HQ.out.1.cells
          go_wp2_with fail
          refine (appendWindow_s _ _ _ S L ti fi _ HQ.out.1.po).mono ?_
          rintro e y5 ⟨S3, L3, a3, c3, b3, d3, rfl, ho3, hb3⟩
          rw [HQ.out.2]
          have HR := Lib.hid ((bel_go HQ.out.1.bel hb3).alloc (bel_go HQ.out.1.bel hb3).size (.cells #[.slice a3 S3.length c3, .slice b3 L3.length d3] 25))
          clear k0 k1 ho3 hb3
          go_wp2_with fail
          go_ret
          exact ⟨rfl, HR.out⟩
  · clear w0
    go_enter Try.func4, Try.ntmps4
    go_wp2_with fail
    go_ret
    exact ⟨rfl, Below.refl _ _⟩
end Go.Proofs.Ytmfgffgfggkgcaa
