/-
  The walk of FnTables: it returns true of every draw.
-/
import Derived.Test.YtolflcjaglgphaaMergedL
import Derived.Test.YtolflcjaglgphaaDrop
import Derived.Test.YtolflcjaglgphaaTabQ
namespace Go.Proofs.Ytolflcjaglgphaa
open Go.RowKit
def MadePt (w : World) (e : Ending) (w' : World) : Prop := ∃ p : Nat × Nat, e = .returned (.complex .f32 p.1 p.2) ∧ (p.1 < 4294967296 ∧ p.2 < 4294967296) ∧ Below w.heap.size w w'
theorem makePoint_any (a : Option Addr) (len cap : Nat) (xs : List Value) (w : World) (hx : CodeAt w a len xs) : Calls Try.prog 13 #[.slice a len cap] w (MadePt w) := by
  have H := Lib.hid hx
  clear hx
  go_enter Try.func13, Try.ntmps13
  go_wp2_with fail
  refine (l01New_any _ _ _ _ _ H.out).mono ?_
  rintro e w1 ⟨c, rfl, hc, hc1, hb1⟩
  have R := Lib.hid (show _ ∧ _ from ⟨hc1, hb1⟩)
  clear hc1 hb1
  go_wp2_with fail
  refine (l2Small_any c _ R.out.1).mono ?_
  rintro e w2 ⟨x, rfl, hx, hc2, hk2⟩
  have R2 := Lib.hid hk2
  clear hc2 hk2
  go_wp2_with fail
  go_ret
  exact ⟨x, rfl, hx, R.out.2.trans (R2.out.below hc R.out.2.size)⟩
theorem nan00 (w : World) : isN .f32 (fval .quo .f32 0 0 w) = true := by
  rcases fval_self .quo .f32 0 0 w with h | h
  · rw [h]; decide +kernel
  · exact h.1
theorem below_drewN_trans {w w' : World} {n : Nat} (h : Below (w.drewN n).heap.size (w.drewN n) w') : Below w.heap.size w w' := bel_go (below_drewN' (Below.refl _ _)) h
set_option maxHeartbeats 4000000 in
set_option maxRecDepth 100000 in
theorem fnTables_walk {w : World} (a0 : Option Addr) (len0 cap0 : Nat) (z0 : List Int) (w0 : IsRow w a0 len0 cap0 z0) :
    Calls Try.prog 4 #[.slice a0 len0 cap0] w fun e w' => e = .returned (.bool true) ∧ Below w.heap.size w w' := by
  by_cases hl : len0 ≤ 1048576
  · obtain ⟨xs, hx⟩ := code_of_row w0 hl
    have HX := Lib.hid hx
    clear w0 hx
    go_enter Try.func4, Try.ntmps4
    go_wp2_with fail
    refine (makeTable_any _ _ _ _ _ HX.out).mono ?_
    rintro e w1 ⟨A, a1, p1, b1, q1, rfl, htab, hokA, hb1⟩
    have H1 := Lib.hid (show _ ∧ _ ∧ _ ∧ _ from ⟨hb1.alloc hb1.size (.cells #[.slice a1 A.1.length p1, .slice b1 A.1.length q1] 25), HX.out.below (hb1.alloc hb1.size (.cells #[.slice a1 A.1.length p1, .slice b1 A.1.length q1] 25)), VT.new htab, hokA⟩)
    clear htab hokA hb1
    go_wp2_with fail
    generalize w1.alloc (.cells #[.slice a1 A.1.length p1, .slice b1 A.1.length q1] 25) = x1 at *
    generalize w1.heap.size = c3 at *
    refine (fresh_any _ _ _ _ 3 _ H1.out.2.1 hl (by decide)).mono ?_
    rintro e w2 ⟨g2, n2, cap2, xs2, rfl, hg2, hcode2, hn2, hb2⟩
    have H2 := Lib.hid (show _ ∧ _ ∧ _ ∧ _ ∧ _ from ⟨bel_go H1.out.1 hb2, hcode2, H1.out.2.1.below hb2, H1.out.2.2.1.keep hb2, H1.out.2.2.2⟩)
    clear hcode2 hb2 hg2 hn2 H1
    go_wp2_with fail
    refine (makePoint_any _ _ _ _ _ H2.out.2.1).mono ?_
    rintro e w3 ⟨z, rfl, hz, hb3⟩
    have H3 := Lib.hid (show _ ∧ _ ∧ _ ∧ _ ∧ _ from ⟨bel_go H2.out.1 hb3, H2.out.2.2.1.below hb3, H2.out.2.2.2.1.keep hb3, H2.out.2.2.2.2, hz⟩)
    clear hb3 H2 hz
    go_wp2_with fail
    refine (at_any _ _ _ _ 1 _ H3.out.2.1 hl (by decide)).mono ?_
    rintro e w4 ⟨u, rfl, hu, rfl⟩
    obtain ⟨d0, d1⟩ := H3.out.2.2.1.var
    obtain ⟨l, hul⟩ : ∃ l : Int, (u : Int) = l := ⟨_, rfl⟩
    rw [hul]
    clear hul hu
    go_wp2_with fail
    have HPF := Lib.hid (fun T (h : putP A.1 A.2 z l = some T) => (show _ ∧ _ from ⟨put_found (t := A) H3.out.2.2.2.1 h, put_tab (t := A) h⟩))
    have hPS := fun W (hb : Below w4.heap.size w4 W) => put_s _ _ _ A.1 A.2 z l W (H3.out.2.2.1.keep hb).tab H3.out.2.2.2.2
    have HPS := Lib.hid hPS
    clear hPS
    refine (put_i _ _ _ A.1 A.2 z l _ H3.out.2.2.1.tab H3.out.2.2.2.2).mono ?_
    generalize putP A.1 A.2 z l = r at *
    rintro e w5 ⟨a5, p5, b5, q5, rfl, htab, hb5⟩
    have hb5' := hb5.alloc hb5.size (.cells #[.slice a5 (r.getD ([], [])).1.length p5, .slice b5 (r.getD ([], [])).1.length q5] 25)
    have H5 := Lib.hid (show _ ∧ _ ∧ _ ∧ _ from ⟨hb5', H3.out.2.2.1.keep hb5', VT.new htab, H3.out.2.1.below hb5'⟩)
    clear htab hb5 hb5' d0 d1
    obtain ⟨d0, d1⟩ := H5.out.2.1.var
    go_wp2_with fail
    refine (HPS.out _ H5.out.1).mono ?_
    rintro e w6 ⟨a6, p6, b6, q6, rfl, htab, hb6⟩
    have hb6' := hb6.alloc hb6.size (.cells #[.slice a6 (r.getD ([], [])).1.length p6, .slice b6 (r.getD ([], [])).1.length q6] 25)
    have H6 := Lib.hid (show _ ∧ _ ∧ _ ∧ _ from ⟨bel_go H3.out.1 (bel_go H5.out.1 hb6'), H5.out.2.1.keep hb6', H5.out.2.2.1.keep hb6', H5.out.2.2.2.below hb6'⟩)
    have HZ := Lib.hid (show _ ∧ _ from ⟨H3.out.2.2.2.1, H3.out.2.2.2.2⟩)
    clear htab hb6 hb6' d0 d1 HPS H5 H3
    generalize w5.heap.size = c5 at *
    generalize w4.heap.size = B5 at *
    cases r with
    | none =>
      clear HPF
      have H7 := Lib.hid (show Below w.heap.size w (w6.alloc (.cells #[.slice a6 0 p6, .slice b6 0 q6] 25)) ∧ VT c3 w.heap.size (Value.slice a1 A.1.length p1) (Value.slice b1 A.1.length q1) A (w6.alloc (.cells #[.slice a6 0 p6, .slice b6 0 q6] 25)) ∧ CodeAt (w6.alloc (.cells #[.slice a6 0 p6, .slice b6 0 q6] 25)) a0 len0 xs from ⟨H6.out.1, H6.out.2.1, H6.out.2.2.2⟩)
      clear H6
      obtain ⟨d0, d1⟩ := H7.out.2.1.var
      go_wp2_with fail
      generalize (w6.alloc (.cells #[.slice a6 0 p6, .slice b6 0 q6] 25)) = w9 at *
      have hodd : findOk A.1 A.2 (fval .quo .f32 0 0 w9, 0) = false := by unfold findOk; rw [idx_nan (nan00 w9)]; simp
      refine (find_i _ _ A.1 A.2 (fval .quo .f32 0 0 w9, 0) _ (H7.out.2.1.keep (below_drewN' (Below.refl _ _))).tab.tabIn).mono ?_
      rintro e w10 ⟨he, hbf⟩
      rw [hodd] at he
      subst he
      generalize fval .quo .f32 0 0 w9 = nan at *
      have hb10 := below_drewN_trans hbf
      have H8 := Lib.hid (show _ ∧ _ ∧ _ from ⟨bel_go H7.out.1 hb10, H7.out.2.1.keep hb10, H7.out.2.2.below hb10⟩)
      clear hbf hb10 H7 hodd d0 d1
      go_wp2_with fail
      refine (fresh_any _ _ _ _ 5 _ H8.out.2.2 hl (by decide)).mono ?_
      rintro e w11 ⟨g5, n5, cap5, xs5, rfl, hg5, hcode5, hn5, hb11⟩
      have H9 := Lib.hid (show _ ∧ _ ∧ _ ∧ _ from ⟨bel_go H8.out.1 hb11, hcode5, H8.out.2.1.keep hb11, H8.out.2.2.below hb11⟩)
      clear hcode5 hb11 hg5 hn5 H8
      go_wp2_with fail
      refine (makeFloat_any _ _ _ _ _ H9.out.2.1).mono ?_
      rintro e w12 ⟨x5, rfl, hx5, hb12⟩
      have H10 := Lib.hid (show _ ∧ _ ∧ _ from ⟨bel_go H9.out.1 hb12, H9.out.2.2.1.keep hb12, H9.out.2.2.2.below hb12⟩)
      clear hx5 hb12 H9
      go_wp2_with fail
      refine (fresh_any _ _ _ _ 7 _ H10.out.2.2 hl (by decide)).mono ?_
      rintro e w13 ⟨g7, n7, cap7, xs7, rfl, hg7, hcode7, hn7, hb13⟩
      have H11 := Lib.hid (show _ ∧ _ ∧ _ from ⟨bel_go H10.out.1 hb13, hcode7, H10.out.2.1.keep hb13⟩)
      clear hcode7 hb13 hg7 hn7 H10
      go_wp2_with fail
      refine (makeFloat_any _ _ _ _ _ H11.out.2.1).mono ?_
      rintro e w14 ⟨x7, rfl, hx7, hb14⟩
      have H12 := Lib.hid (show _ ∧ _ from ⟨bel_go H11.out.1 hb14, H11.out.2.2.keep hb14⟩)
      clear hx7 hb14 H11
      obtain ⟨d0, d1⟩ := H12.out.2.var
      go_wp2_with fail
      refine (nearest_i _ _ A.1 A.2 (x5, x7) _ H12.out.2.tab.tabIn).mono ?_
      rintro e w15 ⟨he, hbf⟩
      rw [HZ.out.1, Bool.true_and] at he
      have H13 := Lib.hid (show _ ∧ _ from ⟨bel_go H12.out.1 hbf, H12.out.2.keep hbf⟩)
      clear hbf H12 d0 d1
      obtain ⟨d0, d1⟩ := H13.out.2.var
      have hbd := nearI_bd A.1 (x5, x7)
      have hle := H13.out.2.tab.le
      have HNB := Lib.hid (fun k (hk : k < A.1.length) => near_best (z := (x5, x7)) hk)
      obtain ⟨ni, hni⟩ : ∃ i, nearI A.1 (x5, x7) = i := ⟨_, rfl⟩
      rw [hni] at he hbd HNB
      clear hni
      by_cases h0 : 0 ≤ ni
      · obtain ⟨i, rfl⟩ : ∃ i : Nat, ni = i := ⟨ni.toNat, by omega⟩
        have hil : i < A.1.length := by omega
        have hil' : (i : Int) < (A.1.length : Int) := by omega
        have hi0 : ¬ (i : Int) < 0 := by omega
        have hi1 : ¬ (A.1.length : Int) ≤ (i : Int) := by omega
        rw [decide_eq_true h0, if_pos rfl] at he
        subst he
        clear hbd h0
        obtain ⟨g, off, hag, hci⟩ := cell_pt H13.out.2.tab.o0 hil
        subst hag
        have HPT := Lib.hid (show ∀ k (hk : k < A.1.length), w15.cell? ⟨g, off + k, none⟩ = some (.complex .f32 A.1[k].1 A.1[k].2) from fun k hk => by
          obtain ⟨g', off', h1, h2⟩ := cell_pt H13.out.2.tab.o0 hk
          cases h1
          exact h2)
        have HB := Lib.hid (show ∀ k (hk : k < A.1.length), eqS (distP A.1[k] (x5, x7)) (distP A.1[k] (x5, x7)) = true → ltS (distP A.1[k] (x5, x7)) (distP A.1[i] (x5, x7)) = false ∧ (k < i → eqS (distP A.1[k] (x5, x7)) (distP A.1[i] (x5, x7)) = false) from fun k hk h => by
          obtain ⟨j, hj, h1, h2, h3⟩ := HNB.out k hk h
          obtain rfl : i = j := by omega
          exact ⟨h2, h3⟩)
        clear HNB hci
        have hci := HPT.out i hil
        generalize A.1[i] = Pi at *
        go_wp2_with fail
        simp only [decide_eq_false (show ¬ (i : Int) < 0 by omega), decide_eq_false (show ¬ A.1.length ≤ i by omega), Bool.or_self]
        go_loopw [146] (fun kv wr => ∃ k q : Nat, k ≤ A.1.length ∧ kv = .int .i64 k ∧ wr = w15.drewN q) (fun kv _ => A.1.length - (intOf kv).toNat)
        case atStart => exact ⟨0, 0, by omega, rfl, rfl⟩
        case round =>
          obtain ⟨k, q, hk, rfl, rfl⟩ := hrel
          by_cases hlt : (k : Int) < (A.1.length : Int)
          · have hk' : k < A.1.length := by omega
            have hck := HPT.out k hk'
            have HBk := Lib.hid (HB.out k hk')
            clear HPT HB
            generalize A.1[k] = Pk at *
            go_wp2_with fail
            refine (distanceOf_s Pk (x5, x7) _).mono ?_
            rintro e w1 ⟨d, n1, rfl, hd, rfl⟩
            have e1 : (FloatKind.f32.format.order d d == some .eq) = eqS (distP Pk (x5, x7)) (distP Pk (x5, x7)) := by rw [order_FE hd hd]; rfl
            have HD := Lib.hid hd
            clear hd
            cases h1 : eqS (distP Pk (x5, x7)) (distP Pk (x5, x7)) with
            | false =>
              rw [h1] at e1
              clear HBk h1
              go_wp2_with fail
              go_roundw
              case rel => exact ⟨k + 1, _, by omega, by go_num, rfl⟩
              case measure => simp [intOf]; omega
            | true =>
              rw [h1] at e1
              have hb := Lib.hid (HBk.out h1)
              clear HBk h1
              go_wp2_with fail
              refine (distanceOf_s Pi (x5, x7) _).mono ?_
              rintro e w2 ⟨d2, n2, rfl, hd2, rfl⟩
              have e2 : (FloatKind.f32.format.order d d2 == some .lt) = false := by rw [order_FE HD.out hd2]; exact hb.out.1
              clear hd2
              by_cases hki : (k : Int) < (i : Int)
              · go_wp2_with fail
                refine (distanceOf_s Pi (x5, x7) _).mono ?_
                rintro e w3 ⟨d3, n3, rfl, hd3, rfl⟩
                have e3 : (FloatKind.f32.format.order d d3 == some .eq) = false := by rw [order_FE HD.out hd3]; exact hb.out.2 (by omega)
                clear hd3 HD hb
                go_wp2_with fail
                go_roundw
                case rel => exact ⟨k + 1, _, by omega, by go_num, rfl⟩
                case measure => simp [intOf]; omega
              · go_wp2_with fail
                go_roundw
                case rel => exact ⟨k + 1, _, by omega, by go_num, rfl⟩
                case measure => simp [intOf]; omega
          · go_wp2_with fail
            go_ret
            exact ⟨rfl, below_drewN' H13.out.1⟩
      · rw [decide_eq_false h0] at he
        replace he : e = .returned (.tuple #[.int .i64 0, .bool false]) := he
        subst he
        have HPT := Lib.hid (show ∀ k (hk : k < A.1.length), ∃ g off, a1 = some ⟨g, off, none⟩ ∧ w15.cell? ⟨g, off + k, none⟩ = some (.complex .f32 A.1[k].1 A.1[k].2) from fun k hk => cell_pt H13.out.2.tab.o0 hk)
        have HB := Lib.hid (show ∀ k (hk : k < A.1.length), eqS (distP A.1[k] (x5, x7)) (distP A.1[k] (x5, x7)) = false from fun k hk => by
          cases h : eqS (distP A.1[k] (x5, x7)) (distP A.1[k] (x5, x7)) with
          | false => rfl
          | true =>
            obtain ⟨j, hj, h1, -, -⟩ := HNB.out k hk h
            omega)
        clear hbd h0 HNB
        go_wp2_with fail
        go_loopw [146] (fun kv wr => ∃ k q : Nat, k ≤ A.1.length ∧ kv = .int .i64 k ∧ wr = w15.drewN q) (fun kv _ => A.1.length - (intOf kv).toNat)
        case atStart => exact ⟨0, 0, by omega, rfl, rfl⟩
        case round =>
          obtain ⟨k, q, hk, rfl, rfl⟩ := hrel
          by_cases hlt : (k : Int) < (A.1.length : Int)
          · have hk' : k < A.1.length := by omega
            obtain ⟨g, off, rfl, hck⟩ := HPT.out k hk'
            have h1 := HB.out k hk'
            clear HPT HB
            generalize A.1[k] = Pk at *
            go_wp2_with fail
            refine (distanceOf_s Pk (x5, x7) _).mono ?_
            rintro e w1 ⟨d, n1, rfl, hd, rfl⟩
            have e1 : (FloatKind.f32.format.order d d == some .eq) = false := by rw [order_FE hd hd]; exact h1
            clear hd h1
            go_wp2_with fail
            go_roundw
            case rel => exact ⟨k + 1, _, by omega, by go_num, rfl⟩
            case measure => simp [intOf]; omega
          · go_wp2_with fail
            go_ret
            exact ⟨rfl, below_drewN' H13.out.1⟩
    | some T =>
      have HP := Lib.hid (HPF.out T rfl)
      have H7 := Lib.hid (show Below w.heap.size w (w6.alloc (.cells #[.slice a6 T.1.length p6, .slice b6 T.1.length q6] 25)) ∧ VT c3 w.heap.size (Value.slice a1 A.1.length p1) (Value.slice b1 A.1.length q1) A (w6.alloc (.cells #[.slice a6 T.1.length p6, .slice b6 T.1.length q6] 25)) ∧ VT c5 B5 (.slice a5 T.1.length p5) (.slice b5 T.1.length q5) T (w6.alloc (.cells #[.slice a6 T.1.length p6, .slice b6 T.1.length q6] 25)) ∧ CodeAt (w6.alloc (.cells #[.slice a6 T.1.length p6, .slice b6 T.1.length q6] 25)) a0 len0 xs from H6.out)
      clear H6 HPF
      obtain ⟨d2, d3⟩ := H7.out.2.2.1.var
      go_wp2_with fail
      refine (find_i _ _ T.1 T.2 z _ H7.out.2.2.1.tab.tabIn).mono ?_
      rintro e w7 ⟨he, hbf⟩
      rw [findOk_yes HP.out.2.1 HP.out.1.1, if_pos rfl, HP.out.1.2] at he
      subst he
      have H8 := Lib.hid (show _ ∧ _ ∧ _ ∧ _ from ⟨bel_go H7.out.1 hbf, H7.out.2.1.keep hbf, H7.out.2.2.1.keep hbf, H7.out.2.2.2.below hbf⟩)
      clear hbf d2 d3 H7
      obtain ⟨d2, d3⟩ := H8.out.2.2.1.var
      obtain ⟨j, hj⟩ : ∃ j : Nat, idxI T.1 z = j := ⟨(idxI T.1 z).toNat, by have := HP.out.1.1; omega⟩
      have hjl : j < T.1.length := by have := idx_bd T.1 z; omega
      have hdp := dropP_hit HP.out.2.1 hj
      have heg := erase_gone HP.out.2.1 hj
      have hel := List.length_eraseIdx_of_lt hjl
      have HE := Lib.hid (show _ ∧ _ ∧ _ from ⟨hdp, heg, hel⟩)
      clear hdp heg hel hj
      go_wp2_with fail
      refine (drop_i _ _ _ T.1 T.2 z _ H8.out.2.2.1.tab).mono ?_
      rw [HE.out.1]
      have hno : ∀ ls, findOk (T.1.eraseIdx j) ls z = false := fun ls => by unfold findOk; rw [HE.out.2.1]; simp
      have hel : (((T.1.eraseIdx j).length : Nat) : Int) = (T.1.length : Int) - 1 := by rw [HE.out.2.2]; omega
      have HEL := Lib.hid hel
      clear hel
      have h64 : T.1.length ≤ 64 := (of_decide_eq_true HP.out.2.1).2.1
      rintro e w8 ⟨a8, p8, b8, q8, rfl, htab, hb8⟩
      replace htab : TabO w7.heap.size w8 (.slice a8 (T.1.eraseIdx j).length p8) (.slice b8 (T.1.eraseIdx j).length q8) (T.1.eraseIdx j, T.2.eraseIdx j).1 (T.1.eraseIdx j, T.2.eraseIdx j).2 := htab
      clear HE
      generalize T.1.eraseIdx j = ps8 at *
      generalize T.2.eraseIdx j = ls8 at *
      have hb8' := hb8.alloc hb8.size (.cells #[.slice a8 ps8.length p8, .slice b8 ps8.length q8] 25)
      have H9 := Lib.hid (show Below w.heap.size w (w8.alloc (.cells #[.slice a8 ps8.length p8, .slice b8 ps8.length q8] 25)) ∧ VT c3 w.heap.size (Value.slice a1 A.1.length p1) (Value.slice b1 A.1.length q1) A (w8.alloc (.cells #[.slice a8 ps8.length p8, .slice b8 ps8.length q8] 25)) ∧ VT c5 B5 (.slice a5 T.1.length p5) (.slice b5 T.1.length q5) T (w8.alloc (.cells #[.slice a8 ps8.length p8, .slice b8 ps8.length q8] 25)) ∧ VT w8.heap.size w7.heap.size (.slice a8 ps8.length p8) (.slice b8 ps8.length q8) (ps8, ls8) (w8.alloc (.cells #[.slice a8 ps8.length p8, .slice b8 ps8.length q8] 25)) ∧ CodeAt (w8.alloc (.cells #[.slice a8 ps8.length p8, .slice b8 ps8.length q8] 25)) a0 len0 xs from ⟨bel_go H8.out.1 hb8', H8.out.2.1.keep hb8', H8.out.2.2.1.keep hb8', VT.new (cur := (ps8, ls8)) htab, H8.out.2.2.2.below hb8'⟩)
      clear htab hb8 hb8' H8 d2 d3
      obtain ⟨d2, d3⟩ := H9.out.2.2.1.var
      obtain ⟨d4, d5⟩ := H9.out.2.2.2.1.var
      go_wp2_with fail
      refine (find_i _ _ ps8 ls8 z _ H9.out.2.2.2.1.tab.tabIn).mono ?_
      rintro e w9 ⟨he, hbf⟩
      rw [hno] at he
      subst he
      have H10 := Lib.hid (show _ ∧ _ ∧ _ ∧ _ ∧ _ from ⟨bel_go H9.out.1 hbf, H9.out.2.1.keep hbf, H9.out.2.2.1.keep hbf, H9.out.2.2.2.1.keep hbf, H9.out.2.2.2.2.below hbf⟩)
      clear hbf d2 d3 d4 d5 H9 hno
      obtain ⟨d2, d3⟩ := H10.out.2.2.1.var
      obtain ⟨d4, d5⟩ := H10.out.2.2.2.1.var
      obtain ⟨d0, d1⟩ := H10.out.2.1.var
      have hA : ¬ (T.1.length : Int) < (A.1.length : Int) := by have := HP.out.2.2.1; omega
      have hel := HEL.out
      have hwr : IntKind.i64.wrap ((T.1.length : Int) - 1) = (T.1.length : Int) - 1 := by rw [IntKind.wrap_i64]; omega
      clear hjl h64
      go_wp2_with fail
      have H7 := Lib.hid (show _ ∧ _ ∧ _ from ⟨H10.out.1, H10.out.2.1, H10.out.2.2.2.2⟩)
      clear H10 HEL hel hwr hA HP d2 d3 d4 d5
      have hodd : findOk A.1 A.2 (fval .quo .f32 0 0 w9, 0) = false := by unfold findOk; rw [idx_nan (nan00 w9)]; simp
      refine (find_i _ _ A.1 A.2 (fval .quo .f32 0 0 w9, 0) _ (H7.out.2.1.keep (below_drewN' (Below.refl _ _))).tab.tabIn).mono ?_
      rintro e w10 ⟨he, hbf⟩
      rw [hodd] at he
      subst he
      generalize fval .quo .f32 0 0 w9 = nan at *
      have hb10 := below_drewN_trans hbf
      have H8 := Lib.hid (show _ ∧ _ ∧ _ from ⟨bel_go H7.out.1 hb10, H7.out.2.1.keep hb10, H7.out.2.2.below hb10⟩)
      clear hbf hb10 H7 hodd d0 d1
      go_wp2_with fail
      refine (fresh_any _ _ _ _ 5 _ H8.out.2.2 hl (by decide)).mono ?_
      rintro e w11 ⟨g5, n5, cap5, xs5, rfl, hg5, hcode5, hn5, hb11⟩
      have H9 := Lib.hid (show _ ∧ _ ∧ _ ∧ _ from ⟨bel_go H8.out.1 hb11, hcode5, H8.out.2.1.keep hb11, H8.out.2.2.below hb11⟩)
      clear hcode5 hb11 hg5 hn5 H8
      go_wp2_with fail
      refine (makeFloat_any _ _ _ _ _ H9.out.2.1).mono ?_
      rintro e w12 ⟨x5, rfl, hx5, hb12⟩
      have H10 := Lib.hid (show _ ∧ _ ∧ _ from ⟨bel_go H9.out.1 hb12, H9.out.2.2.1.keep hb12, H9.out.2.2.2.below hb12⟩)
      clear hx5 hb12 H9
      go_wp2_with fail
      refine (fresh_any _ _ _ _ 7 _ H10.out.2.2 hl (by decide)).mono ?_
      rintro e w13 ⟨g7, n7, cap7, xs7, rfl, hg7, hcode7, hn7, hb13⟩
      have H11 := Lib.hid (show _ ∧ _ ∧ _ from ⟨bel_go H10.out.1 hb13, hcode7, H10.out.2.1.keep hb13⟩)
      clear hcode7 hb13 hg7 hn7 H10
      go_wp2_with fail
      refine (makeFloat_any _ _ _ _ _ H11.out.2.1).mono ?_
      rintro e w14 ⟨x7, rfl, hx7, hb14⟩
      have H12 := Lib.hid (show _ ∧ _ from ⟨bel_go H11.out.1 hb14, H11.out.2.2.keep hb14⟩)
      clear hx7 hb14 H11
      obtain ⟨d0, d1⟩ := H12.out.2.var
      go_wp2_with fail
      refine (nearest_i _ _ A.1 A.2 (x5, x7) _ H12.out.2.tab.tabIn).mono ?_
      rintro e w15 ⟨he, hbf⟩
      rw [HZ.out.1, Bool.true_and] at he
      have H13 := Lib.hid (show _ ∧ _ from ⟨bel_go H12.out.1 hbf, H12.out.2.keep hbf⟩)
      clear hbf H12 d0 d1
      obtain ⟨d0, d1⟩ := H13.out.2.var
      have hbd := nearI_bd A.1 (x5, x7)
      have hle := H13.out.2.tab.le
      have HNB := Lib.hid (fun k (hk : k < A.1.length) => near_best (z := (x5, x7)) hk)
      obtain ⟨ni, hni⟩ : ∃ i, nearI A.1 (x5, x7) = i := ⟨_, rfl⟩
      rw [hni] at he hbd HNB
      clear hni
      by_cases h0 : 0 ≤ ni
      · obtain ⟨i, rfl⟩ : ∃ i : Nat, ni = i := ⟨ni.toNat, by omega⟩
        have hil : i < A.1.length := by omega
        have hil' : (i : Int) < (A.1.length : Int) := by omega
        have hi0 : ¬ (i : Int) < 0 := by omega
        have hi1 : ¬ (A.1.length : Int) ≤ (i : Int) := by omega
        rw [decide_eq_true h0, if_pos rfl] at he
        subst he
        clear hbd h0
        obtain ⟨g, off, hag, hci⟩ := cell_pt H13.out.2.tab.o0 hil
        subst hag
        have HPT := Lib.hid (show ∀ k (hk : k < A.1.length), w15.cell? ⟨g, off + k, none⟩ = some (.complex .f32 A.1[k].1 A.1[k].2) from fun k hk => by
          obtain ⟨g', off', h1, h2⟩ := cell_pt H13.out.2.tab.o0 hk
          cases h1
          exact h2)
        have HB := Lib.hid (show ∀ k (hk : k < A.1.length), eqS (distP A.1[k] (x5, x7)) (distP A.1[k] (x5, x7)) = true → ltS (distP A.1[k] (x5, x7)) (distP A.1[i] (x5, x7)) = false ∧ (k < i → eqS (distP A.1[k] (x5, x7)) (distP A.1[i] (x5, x7)) = false) from fun k hk h => by
          obtain ⟨j, hj, h1, h2, h3⟩ := HNB.out k hk h
          obtain rfl : i = j := by omega
          exact ⟨h2, h3⟩)
        clear HNB hci
        have hci := HPT.out i hil
        generalize A.1[i] = Pi at *
        go_wp2_with fail
        simp only [decide_eq_false (show ¬ (i : Int) < 0 by omega), decide_eq_false (show ¬ A.1.length ≤ i by omega), Bool.or_self]
        go_loopw [146] (fun kv wr => ∃ k q : Nat, k ≤ A.1.length ∧ kv = .int .i64 k ∧ wr = w15.drewN q) (fun kv _ => A.1.length - (intOf kv).toNat)
        case atStart => exact ⟨0, 0, by omega, rfl, rfl⟩
        case round =>
          obtain ⟨k, q, hk, rfl, rfl⟩ := hrel
          by_cases hlt : (k : Int) < (A.1.length : Int)
          · have hk' : k < A.1.length := by omega
            have hck := HPT.out k hk'
            have HBk := Lib.hid (HB.out k hk')
            clear HPT HB
            generalize A.1[k] = Pk at *
            go_wp2_with fail
            refine (distanceOf_s Pk (x5, x7) _).mono ?_
            rintro e w1 ⟨d, n1, rfl, hd, rfl⟩
            have e1 : (FloatKind.f32.format.order d d == some .eq) = eqS (distP Pk (x5, x7)) (distP Pk (x5, x7)) := by rw [order_FE hd hd]; rfl
            have HD := Lib.hid hd
            clear hd
            cases h1 : eqS (distP Pk (x5, x7)) (distP Pk (x5, x7)) with
            | false =>
              rw [h1] at e1
              clear HBk h1
              go_wp2_with fail
              go_roundw
              case rel => exact ⟨k + 1, _, by omega, by go_num, rfl⟩
              case measure => simp [intOf]; omega
            | true =>
              rw [h1] at e1
              have hb := Lib.hid (HBk.out h1)
              clear HBk h1
              go_wp2_with fail
              refine (distanceOf_s Pi (x5, x7) _).mono ?_
              rintro e w2 ⟨d2, n2, rfl, hd2, rfl⟩
              have e2 : (FloatKind.f32.format.order d d2 == some .lt) = false := by rw [order_FE HD.out hd2]; exact hb.out.1
              clear hd2
              by_cases hki : (k : Int) < (i : Int)
              · go_wp2_with fail
                refine (distanceOf_s Pi (x5, x7) _).mono ?_
                rintro e w3 ⟨d3, n3, rfl, hd3, rfl⟩
                have e3 : (FloatKind.f32.format.order d d3 == some .eq) = false := by rw [order_FE HD.out hd3]; exact hb.out.2 (by omega)
                clear hd3 HD hb
                go_wp2_with fail
                go_roundw
                case rel => exact ⟨k + 1, _, by omega, by go_num, rfl⟩
                case measure => simp [intOf]; omega
              · go_wp2_with fail
                go_roundw
                case rel => exact ⟨k + 1, _, by omega, by go_num, rfl⟩
                case measure => simp [intOf]; omega
          · go_wp2_with fail
            go_ret
            exact ⟨rfl, below_drewN' H13.out.1⟩
      · rw [decide_eq_false h0] at he
        replace he : e = .returned (.tuple #[.int .i64 0, .bool false]) := he
        subst he
        have HPT := Lib.hid (show ∀ k (hk : k < A.1.length), ∃ g off, a1 = some ⟨g, off, none⟩ ∧ w15.cell? ⟨g, off + k, none⟩ = some (.complex .f32 A.1[k].1 A.1[k].2) from fun k hk => cell_pt H13.out.2.tab.o0 hk)
        have HB := Lib.hid (show ∀ k (hk : k < A.1.length), eqS (distP A.1[k] (x5, x7)) (distP A.1[k] (x5, x7)) = false from fun k hk => by
          cases h : eqS (distP A.1[k] (x5, x7)) (distP A.1[k] (x5, x7)) with
          | false => rfl
          | true =>
            obtain ⟨j, hj, h1, -, -⟩ := HNB.out k hk h
            omega)
        clear hbd h0 HNB
        go_wp2_with fail
        go_loopw [146] (fun kv wr => ∃ k q : Nat, k ≤ A.1.length ∧ kv = .int .i64 k ∧ wr = w15.drewN q) (fun kv _ => A.1.length - (intOf kv).toNat)
        case atStart => exact ⟨0, 0, by omega, rfl, rfl⟩
        case round =>
          obtain ⟨k, q, hk, rfl, rfl⟩ := hrel
          by_cases hlt : (k : Int) < (A.1.length : Int)
          · have hk' : k < A.1.length := by omega
            obtain ⟨g, off, rfl, hck⟩ := HPT.out k hk'
            have h1 := HB.out k hk'
            clear HPT HB
            generalize A.1[k] = Pk at *
            go_wp2_with fail
            refine (distanceOf_s Pk (x5, x7) _).mono ?_
            rintro e w1 ⟨d, n1, rfl, hd, rfl⟩
            have e1 : (FloatKind.f32.format.order d d == some .eq) = false := by rw [order_FE hd hd]; exact h1
            clear hd h1
            go_wp2_with fail
            go_roundw
            case rel => exact ⟨k + 1, _, by omega, by go_num, rfl⟩
            case measure => simp [intOf]; omega
          · go_wp2_with fail
            go_ret
            exact ⟨rfl, below_drewN' H13.out.1⟩
  · have hg : (1048576 : Int) < (len0 : Int) := by omega
    go_enter Try.func4, Try.ntmps4
    go_wp2_with fail
    go_ret
    exact ⟨rfl, Below.refl _ _⟩
end Go.Proofs.Ytolflcjaglgphaa
