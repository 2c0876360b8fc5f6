/-
  The walk of FnSummed: it returns true of every draw.
-/
import Derived.Test.YtpjplcbcbabbnaaFresh
import Derived.Test.YtpjplcbcbabbnaaSterb
import Derived.Test.YtpjplcbcbabbnaaStepsOfS
import Derived.Test.YtpjplcbcbabbnaaSumP
import Derived.Deep.DeepCutAuto
namespace Go.Proofs.Ytpjplcbcbabbnaa
open Go.RowKit

theorem sumP_fuel : ∀ (f g : Nat) (zs : List Nat), zs.length ≤ f → zs.length ≤ g → sumP f zs = sumP g zs := by
  intro f
  induction f with
  | zero =>
    intro g zs h1 _
    cases g with
    | zero => rfl
    | succ g => simp only [sumP]; rw [if_pos (by omega)]
  | succ f ih =>
    intro g zs h1 h2
    cases g with
    | zero => simp only [sumP]; rw [if_pos (by omega)]
    | succ g =>
      simp only [sumP]
      by_cases a : zs.length = 0
      · rw [if_pos a, if_pos a]
      · by_cases b : zs.length = 1
        · rw [if_neg a, if_neg a, if_pos b, if_pos b]
        · rw [if_neg a, if_neg a, if_neg b, if_neg b,
            ih g (zs.take (zs.length / 2)) (by rw [List.length_take]; omega) (by rw [List.length_take]; omega),
            ih g (zs.drop (zs.length / 2)) (by rw [List.length_drop]; omega) (by rw [List.length_drop]; omega)]
theorem sumP_half {zs : List Nat} {n h : Nat} (hn : zs.length = n) (h2 : 2 ≤ n) (hh : n / 2 = h) : sumP n zs = fop .add .f32 (sumP h (zs.take h)) (sumP (n - h) (zs.drop h)) := by
  obtain ⟨m, rfl⟩ : ∃ m, n = m + 1 := ⟨n - 1, by omega⟩
  simp only [sumP]
  rw [if_neg (by omega), if_neg (by omega), hn, hh,
    sumP_fuel m h (zs.take h) (by rw [List.length_take]; omega) (by rw [List.length_take]; omega),
    sumP_fuel m (m + 1 - h) (zs.drop h) (by rw [List.length_drop]; omega) (by rw [List.length_drop]; omega)]

def ListRel (w : World) (k : Nat) (v : Value) (wr : World) : Prop :=
  ∃ (zs : List Nat) (g cap : Nat), zs.length = k ∧ v = .slice (some ⟨g, 0, none⟩) k cap ∧ wr.ownsRow w.heap.size 23 1 v k (zs.map fl) ∧ Below w.heap.size w wr
theorem grown_of_below {w w' : World} (h : Below w.heap.size w w') : w.grownBy w' none := ⟨h.os, h.tape, h.output, h.size, fun k hk _ => h.block k hk⟩
theorem ListRel.below {w wr w' : World} {k : Nat} {v : Value} (h : ListRel w k v wr) (hb : Below wr.heap.size wr w') : ListRel w k v w' := by
  obtain ⟨zs, g, cap, h1, h0, h2, h3⟩ := h
  refine ⟨zs, g, cap, h1, h0, h2.kept (grown_of_below hb) (by cases h : v.ownBlock with | none => exact .inl rfl | some g => exact .inr (by simp)), h3.trans (hb.mono h3.size)⟩
theorem owns_cap {w : World} {base e g n cap : Nat} {xs : List Value} (h : w.ownsRow base e 1 (.slice (some ⟨g, 0, none⟩) n cap) n xs) : n ≤ cap ∧ cap ≤ 9223372036854775807 := by
  rcases h.2 with ⟨h0, _⟩ | ⟨g', cap', cur, h1, _, _, h2, h3, _⟩
  · cases h0
  · cases h1
    unfold maxLen at h3
    exact ⟨h2, by omega⟩
/-- What the rest of the law goes on from. -/
def Keep (w : World) (a0 : Option Addr) (len0 : Nat) (xs : List Value) (g0 k : Nat) (zs : List Nat) (wx : World) : Prop :=
  Below w.heap.size w wx ∧ CodeAt wx a0 len0 xs ∧ SlAt wx (some ⟨g0, 0, none⟩) k (zs.map fl)
theorem Keep.drewN {w wx : World} {a0 : Option Addr} {len0 g0 k n : Nat} {xs : List Value} {zs : List Nat} (h : Keep w a0 len0 xs g0 k zs wx) : Keep w a0 len0 xs g0 k zs (wx.drewN n) :=
  ⟨below_drewN' h.1, ⟨h.2.1.1.drewN, h.2.1.2⟩, h.2.2.drewN⟩
theorem self_order (S : Nat) : FloatKind.f32.format.order S S = none ∨ FloatKind.f32.format.order S S = some .eq := by
  cases h : isN .f32 S with
  | true => exact .inl (order_nan_left h)
  | false => exact .inr (order_self h)
set_option maxHeartbeats 4000000 in
set_option maxRecDepth 100000 in
theorem fnSummed_walk {w : World} (a0 : Option Addr) (len0 cap0 : Nat) (z0 : List Int) (w0 : IsRow w a0 len0 cap0 z0) :
    Calls Try.prog 8 #[.slice a0 len0 cap0] w fun e w' => e = .returned (.bool true) ∧ Below w.heap.size w w' := by
  by_cases hl : len0 ≤ 1048576
  · obtain ⟨xs, hx⟩ := code_of_row w0 hl
    have HX := Lib.hid hx
    clear w0 hx
    obtain ⟨i0, hi, hz0, hz1, hz2⟩ := info_parts elemInfo
    have hdl : decide ((1048576 : Int) < (len0 : Int)) = false := decide_eq_false (by omega)
    go_enter Try.func8, Try.ntmps8
    go_wp2_with fail
    go_loopw [3, 4] (fun v i wr => ∃ k : Nat, k ≤ 20 ∧ i = .int .i64 k ∧ ListRel w k v wr) (fun _ i _ => 20 - (intOf i).toNat)
    case atStart => exact ⟨0, by omega, rfl, [], _, _, rfl, rfl, World.ownsRow_lit w _ 0 (Nat.le_refl _) (by decide) rfl, (Below.refl _ _).alloc (Nat.le_refl _) _⟩
    case round =>
      obtain ⟨k, hk, rfl, hrel⟩ := hrel
      obtain ⟨g0, cp0, rfl⟩ : ∃ g cap, u3 = Value.slice (some ⟨g, 0, none⟩) k cap := by
        obtain ⟨_, g, cap, _, h, _⟩ := hrel
        exact ⟨g, cap, h⟩
      have HR := Lib.hid hrel
      clear hrel
      have HXr := Lib.hid (show CodeAt wr a0 len0 xs by
        obtain ⟨_, _, _, _, _, _, hb⟩ := HR.out
        exact ⟨HX.out.1.below hb, HX.out.2⟩)
      go_wp2_with fail
      refine (at_any _ _ _ _ 1 _ HXr.out hl (by decide)).mono ?_
      rintro e w4 ⟨t, rfl, ht, rfl⟩
      by_cases hlt : (k : Int) < (t : Int) % 20
      · go_wp2_with fail
        rw [show ((3 : Int) + (k : Int)) = ((3 + k : Nat) : Int) by omega]
        refine (fresh_any _ _ _ _ (3 + k) _ HXr.out hl (by omega)).mono ?_
        rintro e w5 ⟨g, n, cap, ys, rfl, hg, hcode, hn, hb5⟩
        have HC5 := Lib.hid (show _ ∧ _ from ⟨hcode, hb5⟩)
        clear hcode hb5
        go_wp2_with fail
        refine (makeFloat_any _ _ _ ys _ HC5.out.1).mono ?_
        rintro e w6 ⟨u, rfl, hu, hb6⟩
        have H6 := Lib.hid ((HR.out.below HC5.out.2).below hb6)
        clear hb6
        obtain ⟨zs, _, _, hz, _, hown, hbel⟩ := H6.out
        have HO := Lib.hid (show _ ∧ _ ∧ _ from ⟨hz, hown, hbel⟩)
        clear hz hown hbel H6 HC5 HXr HR
        go_wp2_with (at_builtin; refine wpList_append_own _ rfl _ _ 22 rfl w.heap.size 23 i0 (.float .f32 0) 1 4 Try.underlying22 hi hz0 hz1 hz2 rfl (by decide) _ _ _ rfl (HO.out.2.1.alloc _) ⟨w6.heap.size, 0, none⟩ 1 1 [_] rfl rfl (cell_one_new _ _ _) ?c2 ?c3 ?c4 ?c5 ?_)
        case c2 => intro x hx; rw [List.mem_singleton] at hx; subst hx; rfl
        case c3 => unfold maxLen; omega
        case c4 => omega
        case c5 => have := HO.out.2.2.size; simp; omega
        intro v' w7 hown1 hgrow _
        have hbel1 : Below w.heap.size w w7 := (HO.out.2.2.alloc HO.out.2.2.size _).grown hgrow (by have := HO.out.2.2.size; simp; omega) (fun j hj => (HO.out.2.1.lt j hj).1)
        obtain ⟨g7, cp7, hv7, _⟩ := owns_slice hown1 (by omega)
        have HN := Lib.hid (show ListRel w (k + 1) v' w7 from ⟨zs ++ [u], g7, cp7, by simp [HO.out.1], hv7, by rw [List.map_append]; exact hown1, hbel1⟩)
        clear hv7
        clear hown1 hgrow hbel1
        go_wp2_with fail
        go_roundw
        case rel => exact ⟨k + 1, by omega, by go_num, HN.out⟩
        case measure => simp [intOf]; omega
      · go_wp2_with fail
        refine (fresh_any _ _ _ _ 50 _ HXr.out hl (by omega)).mono ?_
        rintro e w5 ⟨g, n, cap, ys, rfl, hg, hcode, hn, hb5⟩
        have HC5 := Lib.hid (show _ ∧ _ from ⟨hcode, hb5⟩)
        clear hcode hb5
        go_wp2_with fail
        refine (makeFloat_any _ _ _ ys _ HC5.out.1).mono ?_
        rintro e w6 ⟨x, rfl, hx, hb6⟩
        have H6 := Lib.hid ((HR.out.below HC5.out.2).below hb6)
        have HX6 := Lib.hid (show CodeAt w6 a0 len0 xs from ⟨(HXr.out.1.below HC5.out.2).below hb6, HX.out.2⟩)
        clear hb6 HC5 HXr HR
        obtain ⟨zs, _, _, hz, _, hown, hbel⟩ := H6.out
        have HO := Lib.hid (show _ ∧ _ ∧ _ from ⟨hz, hown, hbel⟩)
        have hg0 := (hown.lt g0 rfl).2
        have hcp : k ≤ cp0 ∧ cp0 ≤ 9223372036854775807 := owns_cap hown
        clear hz hown hbel H6
        go_wp2_with (at_builtin; refine wpList_append_own _ rfl _ _ 22 rfl w6.heap.size 23 i0 (.float .f32 0) 1 4 Try.underlying22 hi hz0 hz1 hz2 rfl (by decide) _ _ _ rfl (World.ownsRow_lit w6 #[] 0 ?c1 (by decide) rfl) ⟨g0, 0, none⟩ k cp0 (zs.map fl) rfl ?c2 ?c3 ?c4 ?c5 ?c6 ?c7 ?_)
        case c1 => exact Nat.le_refl _
        case c2 => simp [HO.out.1]
        case c3 =>
          intro j u hj
          have h1 : (w6.alloc (.cells #[] 23)).ownsRow w.heap.size 23 1 (.slice (some ⟨g0, 0, none⟩) k cp0) k (zs.map fl) := HO.out.2.1.alloc _
          have hjl : j < k := by have := (List.getElem?_eq_some_iff.1 hj).1; simpa [HO.out.1] using this
          have := h1.cellAt j (by omega)
          rw [show (⟨g0, 0, none⟩ : Addr).add j = ⟨g0, j, none⟩ by unfold Addr.add; split <;> simp_all, this, hj]
        case c4 => intro x hx; obtain ⟨u, _, rfl⟩ := List.mem_map.1 hx; rfl
        case c5 => unfold maxLen; omega
        case c6 => omega
        case c7 => simp
        intro v8 w8 hown8 hgrow8 _
        have hb8 : Below w6.heap.size w6 w8 := ((Below.refl _ _).alloc (Nat.le_refl _) _).grown hgrow8 (by simp) (fun j hj => by cases hj; exact Nat.le_refl _)
        have H8 := Lib.hid (show _ ∧ _ from ⟨hown8, hb8⟩)
        clear hown8 hgrow8 hb8
        go_wp2_with (at_builtin; refine wpList_append_own _ rfl _ _ 22 rfl w6.heap.size 23 i0 (.float .f32 0) 1 4 Try.underlying22 hi hz0 hz1 hz2 rfl (by decide) _ _ _ rfl (H8.out.1.alloc _) ⟨w8.heap.size, 0, none⟩ 1 1 [_] rfl rfl (cell_one_new _ _ _) ?d2 ?d3 ?d4 ?d5 ?_)
        case d2 => intro x hx; rw [List.mem_singleton] at hx; subst hx; rfl
        case d3 => unfold maxLen; omega
        case d4 => omega
        case d5 => have := H8.out.2.size; simp; omega
        intro v9 w9 hown9 hgrow9 _
        have hb9 : Below w6.heap.size w6 w9 := (H8.out.2.alloc H8.out.2.size _).grown hgrow9 (by have := H8.out.2.size; simp; omega) (fun j hj => (H8.out.1.lt j hj).1)
        obtain ⟨g9, cp9, hv9, hg9⟩ := owns_slice hown9 (by omega)
        subst hv9
        have HM := Lib.hid (show SlAt w9 (some ⟨g9, 0, none⟩) (k + 1) ((zs ++ [x]).map fl) from ⟨by simp [HO.out.1], .inr ⟨g9, 0, rfl, by rw [List.map_append]; exact holds_of_owns hown9⟩⟩)
        have HL := Lib.hid (show SlAt w9 (some ⟨g0, 0, none⟩) k (zs.map fl) from SlAt.below ⟨by simp [HO.out.1], .inr ⟨g0, 0, rfl, holds_of_owns HO.out.2.1⟩⟩ hb9)
        have HX9 := Lib.hid (show CodeAt w9 a0 len0 xs from ⟨HX6.out.1.below hb9, HX.out.2⟩)
        have HB9 := Lib.hid (show Below w.heap.size w w9 from HO.out.2.2.trans (hb9.mono HO.out.2.2.size))
        clear hown9 hgrow9 hb9 H8 HX6
        have HK := Lib.hid (show Keep w a0 len0 xs g0 k zs w9 from ⟨HB9.out, HX9.out, HL.out⟩)
        have hz : zs.length = k := HO.out.1
        have HZ := Lib.hid hz
        clear hz HB9 HX9 HL HO
        go_wp2_with fail
        refine (sumF_i _ _ _ (zs ++ [x]) _ (by omega) HM.out).mono ?_
        rintro e w10 ⟨v1, n1, rfl, hv1, rfl⟩
        go_wp2_with fail
        refine (sumF_i _ _ _ zs _ (by omega) HK.out.2.2.drewN).mono ?_
        rintro e w10 ⟨v2, n2, rfl, hv2, rfl⟩
        have hb2 : FE .f32 (fop .add .f32 v2 x) (sumF (zs ++ [x])) := by rw [sumF_snoc]; exact .inl (fop_FE hv2 (FE.refl _ _))
        have o1 := Lib.hid (show _ ∧ _ ∧ _ from ⟨order_FE hv1 hb2, order_FE hv1 hv1, order_FE hb2 hb2⟩)
        generalize sumF (zs ++ [x]) = S at *
        clear hv1 hv2 hb2
        go_upto_region 12 with fail
        go_cut [64] (fun s64 wx => s64 = .bool false ∧ Keep w a0 len0 xs g0 k zs wx)
        case first =>
          rcases self_order S with hS | hS
          all_goals
            obtain ⟨p1, p2, p3⟩ := o1.out
            rw [hS] at p1 p2 p3
            clear hS
            go_wp2_with fail
            go_meet
            exact ⟨rfl, by first | exact HK.out.drewN | exact HK.out.drewN.drewN | exact HK.out.drewN.drewN.drewN⟩
        case rest =>
          obtain ⟨rfl, hkeep⟩ := hcut
          have HK := Lib.hid hkeep
          clear hkeep
          go_upto_if 68 with fail
          go_cut [10] (fun s10 wx => Keep w a0 len0 xs g0 k zs wx)
          case first =>
            by_cases hk2 : (1 : Int) < (k : Int)
            · obtain ⟨h, he, hh1, hh2⟩ : ∃ h : Nat, (k : Int) / 2 = (h : Int) ∧ 1 ≤ h ∧ h < k := ⟨k / 2, by omega, by omega, by omega⟩
              have hhd : k / 2 = h := by omega
              have HP := Lib.hid (sumP_half HZ.out (by omega) hhd)
              have P1 := Lib.hid (fun (wx : World) (hw : SlAt wx (some ⟨g0, 0, none⟩) k (zs.map fl)) => pairs_i (some ⟨g0, 0, none⟩) h cp0 (zs.take h) wx (by omega) (by
                rcases hw.2 with h0 | ⟨b, o, hbo, hh⟩
                · omega
                · refine ⟨by rw [List.length_map, List.length_take, HZ.out]; omega, .inr ⟨b, o, hbo, by rw [List.map_take]; exact hh.take⟩⟩) (by omega) hcp.2)
              have P2 := Lib.hid (fun (wx : World) (hw : SlAt wx (some ⟨g0, 0, none⟩) k (zs.map fl)) => pairs_i (some ⟨g0, h, none⟩) (k - h) (cp0 - h) (zs.drop h) wx (by omega) (by
                rcases hw.2 with h0 | ⟨b, o, hbo, hh⟩
                · omega
                · cases hbo
                  refine ⟨by rw [List.length_map, List.length_drop, HZ.out], .inr ⟨g0, h, rfl, by rw [List.map_drop]; have := hh.drop (k := h); rwa [Nat.zero_add] at this⟩⟩) (by omega) (by omega))
              have gt : (k : Int).tdiv 2 = (h : Int) := by rw [Int.tdiv_eq_ediv_of_nonneg (by omega)]; exact he
              have gw : IntKind.i64.wrap (h : Int) = (h : Int) := IntWalk.i64_in _ (by omega)
              have g1 : (h : Int) ≤ (k : Int) := by omega
              have g2 : (h : Int) ≤ (cp0 : Int) := by omega
              have g3 : (k : Int) ≤ (cp0 : Int) := by omega
              have g4 : (0 : Int) ≤ (h : Int) := by omega
              clear hhd
              go_wp2_with fail
              refine (pairs_i _ _ _ zs _ (by omega) HK.out.2.2 hcp.1 hcp.2).mono ?_
              rintro e w10 ⟨v1, n1, rfl, hv1, rfl⟩
              go_wp2_with fail
              go_region_with (first | (go_at_call 15; (with_reducible refine (P1.out _ ?_).mono ?_); (exact HK.out.2.2); rintro e w' ⟨v3, n3, rfl, hv3, rfl⟩) | (go_at_call 15; (with_reducible refine (P2.out _ ?_).mono ?_); (exact HK.out.2.2); rintro e w' ⟨v4, n4, rfl, hv4, rfl⟩))
              all_goals
                have hd : FE .f32 (fop .add .f32 v3 v4) (sumP k zs) := by rw [HP.out]; exact .inl (fop_FE hv3 hv4)
                have o1 := Lib.hid (show _ ∧ _ ∧ _ from ⟨order_FE hv1 hd, order_FE hv1 hv1, order_FE hd hd⟩)
                generalize sumP k zs = T at *
                clear hv1 hv3 hv4 hd
                rcases self_order T with hS | hS
                all_goals
                  obtain ⟨p1, p2, p3⟩ := o1.out
                  rw [hS] at p1 p2 p3
                  clear hS
                  go_wp2_with fail
                  go_meet
                  (repeat (first | exact HK.out | apply Keep.drewN))
            · go_wp2_with fail
              go_meet
              exact HK.out
          case rest =>
            have HK := Lib.hid hcut
            clear hcut
            obtain ⟨b1, b2⟩ := stepsA_bd hx
            have hbnd := Lib.hid b1
            go_wp2_with fail
            refine (stepsOf_spec _ hx _).mono ?_
            rintro e w10 ⟨n10, rfl, rfl⟩
            go_wp2_with fail
            refine (at_any _ _ _ _ 2 _ HK.out.drewN.2.1 hl (by decide)).mono ?_
            rintro e w11 ⟨t2, rfl, ht2, rfl⟩
            go_wp2_with fail
            refine (from_spec _ (by omega) (by omega) _).mono ?_
            rintro e w12 ⟨n12, rfl, rfl⟩
            obtain ⟨d, hd, hd1, hd2⟩ : ∃ d : Int, ((t2 : Int) - 128) * 30000 = d ∧ -4000000 ≤ d ∧ d ≤ 4000000 := ⟨_, rfl, by omega, by omega⟩
            rw [hd]
            clear hd
            cases hf : finB x with
            | false =>
              go_wp2_with fail
              go_ret
              exact ⟨rfl, by (repeat (first | exact HK.out.1 | apply below_drewN'))⟩
            | true =>
              have hA : stepsA x = stepsOf x := by unfold stepsA; rw [hf]; rfl
              rw [hA] at b1 b2
              rw [hA]
              obtain ⟨fx, vx⟩ := val_steps hx hf
              generalize stepsOf x = k1 at *
              have p1 := pos_test fx vx
              have q1 := neg_test' fx vx
              cases hok : fromOk (k1 + d) with
              | false =>
                clear hA p1 q1
                go_wp2_with fail
                go_ret
                exact ⟨rfl, by (repeat (first | exact HK.out.1 | apply below_drewN'))⟩
              | true =>
                have hob : -2139095039 ≤ k1 + d ∧ k1 + d ≤ 2139095039 := by unfold fromOk at hok; simpa using hok
                have hFA : fromA (k1 + d) = wordOf (k1 + d) := by unfold fromA; rw [hok]; rfl
                rw [hFA]
                have hy32 : wordOf (k1 + d) < 4294967296 := by rw [← hFA]; exact fromA_lt _
                obtain ⟨fy, vy⟩ := val_word hob.1 hob.2
                have hnear := Lib.hid (near_diff b1 b2 hob.1 hob.2 hd1 hd2)
                have p2 := pos_test fy vy
                have q2 := neg_test' fy vy
                generalize wordOf (k1 + d) = y at *
                have HS := Lib.hid (fun (hs : (0 < k1 ∧ 0 < k1 + d) ∨ (k1 < 0 ∧ k1 + d < 0) ∨ (k1 = 0 ∧ k1 + d = 0)) => sterbenz hy32 fx fy (by rw [vx, vy]; exact hnear.out hs))
                clear hA hFA hnear vx vy hok
                rcases (show (0 < k1 ∨ k1 < 0 ∨ k1 = 0) by omega) with c1 | c1 | c1 <;> rcases (show (0 < k1 + d ∨ k1 + d < 0 ∨ k1 + d = 0) by omega) with c2 | c2 | c2
                all_goals
                  rw [show decide (0 < k1) = _ from by first | exact decide_eq_true (by omega) | exact decide_eq_false (by omega)] at p1
                  rw [show decide (k1 < 0) = _ from by first | exact decide_eq_true (by omega) | exact decide_eq_false (by omega)] at q1
                  rw [show decide (0 < k1 + d) = _ from by first | exact decide_eq_true (by omega) | exact decide_eq_false (by omega)] at p2
                  rw [show decide (k1 + d < 0) = _ from by first | exact decide_eq_true (by omega) | exact decide_eq_false (by omega)] at q2
                all_goals
                  have C1 := Lib.hid c1
                  have C2 := Lib.hid c2
                  clear c1 c2
                  go_wp2_with fail
                all_goals (first
                  | (go_ret; exact ⟨rfl, by (repeat (first | exact HK.out.1 | apply below_drewN'))⟩)
                  | (refine (twoSum_impl _ _ _).mono ?_
                     rintro e w13 ⟨s, l, n13, rfl, hs, hlo, rfl⟩
                     obtain ⟨t1, t2'⟩ := HS.out (by have := C1.out; have := C2.out; omega)
                     have r1 : (FloatKind.f32.format.order (fop .add .f32 s y) x == some .eq) = true := by rw [order_FE (.inl (fop_FE hs (FE.refl _ _))) (FE.refl _ _)]; exact t1
                     have r2 : (FloatKind.f32.format.order l 0 == some .eq) = true := by rw [order_FE hlo (FE.refl _ _)]; exact t2'
                     clear t1 t2' hs hlo p1 q1 p2 q2
                     go_wp2_with fail
                     go_ret
                     exact ⟨rfl, by (repeat (first | exact HK.out.1 | apply below_drewN'))⟩))
  · have hg : (1048576 : Int) < (len0 : Int) := by omega
    go_enter Try.func8, Try.ntmps8
    go_wp2_with fail
    go_ret
    exact ⟨rfl, Below.refl _ _⟩
end Go.Proofs.Ytpjplcbcbabbnaa
