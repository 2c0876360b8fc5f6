/-
  The walk of FnSums: it returns true of every draw.
-/
import Derived.Test.YtpjplcbcbabbnaaList
namespace Go.Proofs.Ytpjplcbcbabbnaa
open Go.RowKit

theorem fe_fin {k : FloatKind} {x y : Nat} (h : FE k x y) (hn : isN k y = false) : x = y := by
  rcases h with h | ⟨_, h⟩
  · exact h
  · rw [h] at hn; cases hn
theorem s_fin_nan {x : Nat} (h : Ieee.single.fin x) : isN .f32 x = false := by
  rw [isN_s]; refine decide_eq_false ?_; unfold Ieee.Format.fin at h; omega
/-- What a round of the loop goes by. -/
structure RoundFacts (x1 x2 A B S L D1 D2 D3 D4 T1 T2 : Nat) : Prop where
  hA : ∀ w, fval .quo .f32 x1 1077936128 w = A
  hB : ∀ w, fval .mul .f32 x2 1149239296 w = B
  hS : ∀ s, FE .f32 s (sumOf A B) → s = S
  hL : ∀ s, FE .f32 s (lostOf A B) → s = L
  c1 : ∀ w, cval .f32 S .f64 w = D1
  c2 : ∀ w, cval .f32 L .f64 w = D2
  c3 : ∀ w, cval .f32 A .f64 w = D3
  c4 : ∀ w, cval .f32 B .f64 w = D4
  t1 : ∀ w, fval .add .f64 D1 D2 w = T1
  t2 : ∀ w, fval .add .f64 D3 D4 w = T2
  hT : FloatKind.f64.format.order T1 T2 = some .eq
  hU : ∀ w, fval .add .f32 A B w = S
  hV : FloatKind.f32.format.order S S = some .eq
theorem d_ofSum_nan (z : Bool) (T : Int) : isN .f64 (Ieee.double.ofSum z T) = false := by
  rw [isN_d]
  refine decide_eq_false ?_
  unfold Ieee.Format.ofSum Ieee.Format.put
  rw [Ieee.double.rung_word _ (Ieee.double.put_rung_lt _)]
  have := Nat.min_le_right (Ieee.double.rnd T.natAbs) Ieee.double.infRung
  omega
theorem d_fin_nan {x : Nat} (h : Ieee.double.fin x) : isN .f64 x = false := by
  rw [isN_d]; refine decide_eq_false ?_; unfold Ieee.Format.fin at h; omega
theorem round_facts {z1 z2 : Int} (h1 : -1000 ≤ z1 ∧ z1 ≤ 1000) (h2 : -1000 ≤ z2 ∧ z2 ≤ 1000) : ∃ A B S L D1 D2 D3 D4 T1 T2, RoundFacts (fi z1) (fi z2) A B S L D1 D2 D3 D4 T1 T2 := by
  obtain ⟨_, ⟨fa, _⟩, _⟩ := third h1.1 h1.2
  obtain ⟨_, _, fb, _⟩ := third h2.1 h2.2
  obtain ⟨fs, fl, o1, o2⟩ := two_law h1.1 h1.2 h2.1 h2.2 rfl rfl
  generalize hA : fop .quo .f32 (fi z1) 1077936128 = A at *
  generalize hB : fop .mul .f32 (fi z2) 1149239296 = B at *
  obtain ⟨u1, w1⟩ := add_wide fs fl
  obtain ⟨u2, w2⟩ := add_wide fa fb
  have wide : ∀ {x : Nat}, Ieee.single.fin x → ∀ w, cval .f32 x .f64 w = cop .f32 x .f64 := fun hx w => fe_fin (cval_wide _ w) (d_fin_nan (val_widen hx).1)
  exact ⟨A, B, sumOf A B, lostOf A B, _, _, _, _, _, _,
    fun w => by subst hA; exact fe_fin (fval_self ..) (s_fin_nan fa), fun w => by subst hB; exact fe_fin (fval_self ..) (s_fin_nan fb),
    fun s h => fe_fin h (s_fin_nan fs), fun s h => fe_fin h (s_fin_nan fl), wide fs, wide fl, wide fa, wide fb,
    fun w => fe_fin (fval_self ..) (by rw [w1]; exact d_ofSum_nan _ _), fun w => fe_fin (fval_self ..) (by rw [w2]; exact d_ofSum_nan _ _), o2,
    fun w => fe_fin (fval_self ..) (s_fin_nan fs), o1⟩

set_option maxHeartbeats 4000000 in
set_option maxRecDepth 100000 in
theorem fnSums_walk {w : World} (a0 : Option Addr) (len0 cap0 : Nat) (z0 : List Int) (w0 : IsRow w a0 len0 cap0 z0) :
    Calls Try.prog 7 #[.slice a0 len0 cap0] w fun e w' => e = .returned (.bool true) ∧ Below w.heap.size w w' := by
  by_cases hl : len0 ≤ 1048576
  · obtain ⟨xs, hx⟩ := code_of_row w0 hl
    have HX := Lib.hid hx
    clear w0 hx
    have hdl : decide ((1048576 : Int) < (len0 : Int)) = false := decide_eq_false (by omega)
    go_enter Try.func7, Try.ntmps7
    go_wp2_with fail
    refine (makeList_any _ _ _ _ _ HX.out).mono ?_
    rintro e w1 ⟨zs, g, n, cap, hz, hn, hzb, rfl, hc1, hc2, hh, hb1⟩
    have HH := Lib.hid hh
    have HB := Lib.hid hb1
    have HZ := Lib.hid hzb
    clear hh hb1 HX hzb
    go_wp2_with fail
    go_loopw [4] (fun i wr => ∃ k m : Nat, (k + 1 ≤ n ∨ k = 0) ∧ i = .int .i64 ((k + 1 : Nat) : Int) ∧ wr = w1.drewN m) (fun i _ => n + 1 - (intOf i).toNat)
    case atStart => exact ⟨0, 0, .inr rfl, rfl, rfl⟩
    case round =>
      obtain ⟨k, m, hk, rfl, rfl⟩ := hrel
      by_cases hlt : ((k + 1 : Nat) : Int) < (n : Int)
      · have hk1 : k < zs.length := by omega
        have hk2 : k + 1 < zs.length := by omega
        obtain ⟨A, B, S, L, D1, D2, D3, D4, T1, T2, rf⟩ := round_facts (HZ.out _ (List.getElem_mem hk1)) (HZ.out _ (List.getElem_mem hk2))
        have RF := Lib.hid rf
        clear rf
        have q1 : w1.cell? ⟨g, k, none⟩ = some (.float .f32 (fi zs[k])) := by
          have := HH.out.at (i := k) (by simpa using hk1)
          simpa [fl] using this
        have q2 : w1.cell? ⟨g, k + 1, none⟩ = some (.float .f32 (fi zs[k + 1])) := by
          have := HH.out.at (i := k + 1) (by simpa using hk2)
          simpa [fl] using this
        generalize fi zs[k] = x1 at *
        generalize fi zs[k + 1] = x2 at *
        go_wp2_with fail
        rw [RF.out.hA, RF.out.hB]
        refine (twoSum_impl _ _ _).mono ?_
        rintro e w2 ⟨s, l, n1, rfl, hs, hll, rfl⟩
        obtain rfl := RF.out.hS _ hs
        obtain rfl := RF.out.hL _ hll
        clear hs hll
        have c1 := RF.out.c1
        have c2 := RF.out.c2
        have c3 := RF.out.c3
        have c4 := RF.out.c4
        have t1 := RF.out.t1
        have t2 := RF.out.t2
        have hT := RF.out.hT
        have hU := RF.out.hU
        have hV := RF.out.hV
        clear RF
        go_wp2_with fail
        go_roundw
        case rel => exact ⟨k + 1, _, .inl (by omega), by go_num, rfl⟩
        case measure => simp [intOf]; omega
      · go_wp2_with fail
        refine (sumF_i _ _ _ (zs.map fi) _ (by omega) ⟨by simp [hz], .inr ⟨_, _, rfl, HH.out.drewN⟩⟩).mono ?_
        rintro e w2 ⟨v1, n1, rfl, hv1, rfl⟩
        obtain ⟨S, hS⟩ := ints_of HZ.out
        have hzl : (zs.map fi).length ≤ 1000 := by simp; omega
        have I1 := intsF hS hzl
        have I2 := intsP (zs.map fi).length hS hzl (Nat.le_refl _)
        have I3 := intsS hS hzl
        have I4 := intsD hS hzl
        obtain rfl : v1 = sumF (zs.map fi) := fe_fin hv1 (s_fin_nan I1.1)
        have e1 : FloatKind.f32.format.order (sumP (zs.map fi).length (zs.map fi)) (sumF (zs.map fi)) = some .eq := isI_same I2 I1
        have e2 : FloatKind.f32.format.order (sumS (zs.map fi)) (sumF (zs.map fi)) = some .eq := isI_same I3 I1
        have e3 : FloatKind.f64.format.order (sumD (zs.map fi)) (cop .f32 (sumF (zs.map fi)) .f64) = some .eq := isD_same I4 (isD_wide I1)
        have n2 := s_fin_nan I2.1
        have n3 := s_fin_nan I3.1
        have n4 := d_fin_nan I4.1
        clear hS I1 I2 I3 I4 hv1
        have hlen : (zs.map fi).length = n := by simpa using hz
        rw [hlen] at e1 n2
        go_wp2_with fail
        refine (pairs_i _ _ _ (zs.map fi) _ (by omega) ⟨by simp [hz], .inr ⟨_, _, rfl, HH.out.drewN⟩⟩ hc1 hc2).mono ?_
        rintro e w2 ⟨v2, m2, rfl, hv2, rfl⟩
        obtain rfl := fe_fin hv2 n2
        clear hv2 n2
        go_wp2_with fail
        refine (sumS_i _ _ _ (zs.map fi) _ (by omega) ⟨by simp [hz], .inr ⟨_, _, rfl, HH.out.drewN⟩⟩).mono ?_
        rintro e w2 ⟨v3, m3, rfl, hv3, rfl⟩
        obtain rfl := fe_fin hv3 n3
        clear hv3 n3
        go_wp2_with fail
        refine (sumD_i _ _ _ (zs.map fi) _ (by omega) ⟨by simp [hz], .inr ⟨_, _, rfl, HH.out.drewN⟩⟩).mono ?_
        rintro e w2 ⟨v4, m4, rfl, hv4, rfl⟩
        obtain rfl := fe_fin hv4 n4
        clear hv4 n4
        go_wp2_with fail
        go_ret
        exact ⟨rfl, by simpa using below_drewN' HB.out⟩
  · have hg : (1048576 : Int) < (len0 : Int) := by omega
    go_enter Try.func7, Try.ntmps7
    go_wp2_with fail
    go_ret
    exact ⟨rfl, Below.refl _ _⟩
end Go.Proofs.Ytpjplcbcbabbnaa
