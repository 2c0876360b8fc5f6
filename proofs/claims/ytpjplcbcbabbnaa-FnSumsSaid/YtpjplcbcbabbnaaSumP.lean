/-
  SumPairs of the program and of the reference: the same plain sum of the words by halves, up to NaN. A slice of at most 2^20 words.
-/
import Derived.Test.YtpjplcbcbabbnaaSumF
import Derived.Deep.RegionWith
namespace Go.Proofs.Ytpjplcbcbabbnaa
open Go.RowKit

/-- The sum by halves; the number bounds the depth. -/
def sumP : Nat → List Nat → Nat
  | 0, _ => 0
  | f + 1, zs => if zs.length = 0 then 0 else if zs.length = 1 then zs.getD 0 0 else fop .add .f32 (sumP f (zs.take (zs.length / 2))) (sumP f (zs.drop (zs.length / 2)))
theorem Holds.take {w : World} {b off k : Nat} {xs : List Value} (h : Holds w b off xs) : Holds w b off (xs.take k) := fun i hi => by
  rw [List.length_take] at hi
  rw [h i (by omega), List.getElem?_take, if_pos (by omega)]
theorem Holds.drop {w : World} {b off k : Nat} {xs : List Value} (h : Holds w b off xs) : Holds w b (off + k) (xs.drop k) := fun i hi => by
  rw [List.length_drop] at hi
  rw [Nat.add_assoc, h (k + i) (by omega), List.getElem?_drop]

def PairsSaid (F : Nat) (f : Nat) : Prop := ∀ (b off len cap : Nat) (zs : List Nat) (w : World), zs.length = len → len ≤ f → len ≤ cap → len ≤ 1048576 → cap ≤ 9223372036854775807 → 1 ≤ len → Holds w b off (zs.map fl) →
  Calls Try.prog F #[.slice (some ⟨b, off, none⟩) len cap] w (SumAns (sumP f zs) w)

set_option maxHeartbeats 1000000 in
theorem pairs_impl (f : Nat) : PairsSaid 15 f := by
  induction f with
  | zero => intro b off len cap zs w hx hf _ _ _ h1 _; omega
  | succ f ih =>
    intro b off len cap zs w hx hf hcap hlen hc2 h1 hb
    have IH := Lib.hid ih
    clear ih
    by_cases hn1 : len = 1
    · have hk : 0 < zs.length := by omega
      have hc := holds_map_at hb hk
      rw [Nat.add_zero] at hc
      have E := Lib.hid (show sumP (f + 1) zs = zs[0] by
        unfold sumP; rw [if_neg (by omega), if_pos (by omega), List.getD_eq_getElem?_getD, List.getElem?_eq_getElem hk]; rfl)
      generalize zs[0] = u at *
      subst hn1
      go_enter Try.func15, Try.ntmps15
      go_wp2_with fail
      go_ret
      exact ⟨_, 0, rfl, by rw [E.out]; exact FE.refl _ _, rfl⟩
    · have hq0 : ((len : Int) == 0) = false := by simp; omega
      have hq1 : ((len : Int) == 1) = false := by simp; omega
      obtain ⟨h, he, hh1, hh2⟩ : ∃ h : Nat, (len : Int) / 2 = (h : Int) ∧ 1 ≤ h ∧ h < len := ⟨len / 2, by omega, by omega, by omega⟩
      have P1 := Lib.hid (fun (wx : World) (hw : Holds wx b off (zs.map fl)) => IH.out b off h cap (zs.take h) wx (by rw [List.length_take]; omega) (by omega) (by omega) (by omega) hc2 hh1 (by rw [List.map_take]; exact hw.take))
      have P2 := Lib.hid (fun (wx : World) (hw : Holds wx b off (zs.map fl)) => IH.out b (off + h) (len - h) (cap - h) (zs.drop h) wx (by rw [List.length_drop]; omega) (by omega) (by omega) (by omega) (by omega) (by omega) (by rw [List.map_drop]; exact hw.drop))
      have E := Lib.hid (show sumP (f + 1) zs = fop .add .f32 (sumP f (zs.take h)) (sumP f (zs.drop h)) by
        rw [sumP, if_neg (by omega), if_neg (by omega), show zs.length / 2 = h by omega])
      clear IH hn1
      have gt : (len : Int).tdiv 2 = (h : Int) := by rw [Int.tdiv_eq_ediv_of_nonneg (by omega)]; exact he
      have gw : IntKind.i64.wrap (h : Int) = (h : Int) := IntWalk.i64_in _ (by omega)
      have g1 : (h : Int) ≤ (len : Int) := by omega
      have g2 : (h : Int) ≤ (cap : Int) := by omega
      have g3 : (len : Int) ≤ (cap : Int) := by omega
      have g4 : (0 : Int) ≤ (h : Int) := by omega
      go_enter Try.func15, Try.ntmps15
      go_wp2_with fail

      go_region_with (first | (go_at_call 15; (with_reducible refine (P1.out _ ?_).mono ?_); (exact hb); rintro e w' ⟨v1, n1, rfl, hv1, rfl⟩) | (go_at_call 15; (with_reducible refine (P2.out _ ?_).mono ?_); (exact hb); rintro e w' ⟨v2, n2, rfl, hv2, rfl⟩))
      all_goals
        go_wp2
        go_ret
        exact ⟨_, _, rfl, by rw [E.out]; exact fval_FE hv1 hv2 _, rfl⟩
set_option maxHeartbeats 1000000 in
theorem pairs_spec (f : Nat) : PairsSaid 14 f := by
  induction f with
  | zero => intro b off len cap zs w hx hf _ _ _ h1 _; omega
  | succ f ih =>
    intro b off len cap zs w hx hf hcap hlen hc2 h1 hb
    have IH := Lib.hid ih
    clear ih
    by_cases hn1 : len = 1
    · have hk : 0 < zs.length := by omega
      have hc := holds_map_at hb hk
      rw [Nat.add_zero] at hc
      have E := Lib.hid (show sumP (f + 1) zs = zs[0] by
        unfold sumP; rw [if_neg (by omega), if_pos (by omega), List.getD_eq_getElem?_getD, List.getElem?_eq_getElem hk]; rfl)
      generalize zs[0] = u at *
      subst hn1
      go_enter Try.func14, Try.ntmps14
      go_wp2_with fail
      go_ret
      exact ⟨_, 0, rfl, by rw [E.out]; exact FE.refl _ _, rfl⟩
    · have hq0 : ((len : Int) == 0) = false := by simp; omega
      have hq1 : ((len : Int) == 1) = false := by simp; omega
      obtain ⟨h, he, hh1, hh2⟩ : ∃ h : Nat, (len : Int) / 2 = (h : Int) ∧ 1 ≤ h ∧ h < len := ⟨len / 2, by omega, by omega, by omega⟩
      have P1 := Lib.hid (fun (wx : World) (hw : Holds wx b off (zs.map fl)) => IH.out b off h cap (zs.take h) wx (by rw [List.length_take]; omega) (by omega) (by omega) (by omega) hc2 hh1 (by rw [List.map_take]; exact hw.take))
      have P2 := Lib.hid (fun (wx : World) (hw : Holds wx b off (zs.map fl)) => IH.out b (off + h) (len - h) (cap - h) (zs.drop h) wx (by rw [List.length_drop]; omega) (by omega) (by omega) (by omega) (by omega) (by omega) (by rw [List.map_drop]; exact hw.drop))
      have E := Lib.hid (show sumP (f + 1) zs = fop .add .f32 (sumP f (zs.take h)) (sumP f (zs.drop h)) by
        rw [sumP, if_neg (by omega), if_neg (by omega), show zs.length / 2 = h by omega])
      clear IH hn1
      have gt : (len : Int).tdiv 2 = (h : Int) := by rw [Int.tdiv_eq_ediv_of_nonneg (by omega)]; exact he
      have gw : IntKind.i64.wrap (h : Int) = (h : Int) := IntWalk.i64_in _ (by omega)
      have g1 : (h : Int) ≤ (len : Int) := by omega
      have g2 : (h : Int) ≤ (cap : Int) := by omega
      have g3 : (len : Int) ≤ (cap : Int) := by omega
      have g4 : (0 : Int) ≤ (h : Int) := by omega
      go_enter Try.func14, Try.ntmps14
      go_wp2_with fail
      go_region_with (first | (go_at_call 14; (with_reducible refine (P1.out _ ?_).mono ?_); (exact hb); rintro e w' ⟨v1, n1, rfl, hv1, rfl⟩) | (go_at_call 14; (with_reducible refine (P2.out _ ?_).mono ?_); (exact hb); rintro e w' ⟨v2, n2, rfl, hv2, rfl⟩))
      all_goals
        go_wp2
        go_ret
        exact ⟨_, _, rfl, by rw [E.out]; exact fval_FE hv1 hv2 _, rfl⟩

set_option maxHeartbeats 400000 in
theorem pairs_impl_none (a : Option Addr) (cap : Nat) (w : World) : Calls Try.prog 15 #[.slice a 0 cap] w (SumAns 0 w) := by
  go_enter Try.func15, Try.ntmps15
  go_wp2_with fail
  go_ret
  exact ⟨_, 0, rfl, FE.refl _ _, rfl⟩
theorem pairs_i (a : Option Addr) (len cap : Nat) (zs : List Nat) (w : World) (hlen : len ≤ 1048576) (hh : SlAt w a len (zs.map fl)) (hc : len ≤ cap) (hc2 : cap ≤ 9223372036854775807) :
    Calls Try.prog 15 #[.slice a len cap] w (SumAns (sumP len zs) w) := by
  have hz : zs.length = len := by simpa using hh.1
  by_cases h0 : len = 0
  · subst h0; exact pairs_impl_none a cap w
  · rcases hh.2 with h | ⟨b, off, rfl, hb⟩
    · exact absurd h h0
    · exact pairs_impl len b off len cap zs w hz (Nat.le_refl _) hc hlen hc2 (by omega) hb

set_option maxHeartbeats 400000 in
theorem pairs_spec_none (a : Option Addr) (cap : Nat) (w : World) : Calls Try.prog 14 #[.slice a 0 cap] w (SumAns 0 w) := by
  go_enter Try.func14, Try.ntmps14
  go_wp2_with fail
  go_ret
  exact ⟨_, 0, rfl, FE.refl _ _, rfl⟩
theorem pairs_s (a : Option Addr) (len cap : Nat) (zs : List Nat) (w : World) (hlen : len ≤ 1048576) (hh : SlAt w a len (zs.map fl)) (hc : len ≤ cap) (hc2 : cap ≤ 9223372036854775807) :
    Calls Try.prog 14 #[.slice a len cap] w (SumAns (sumP len zs) w) := by
  have hz : zs.length = len := by simpa using hh.1
  by_cases h0 : len = 0
  · subst h0; exact pairs_spec_none a cap w
  · rcases hh.2 with h | ⟨b, off, rfl, hb⟩
    · exact absurd h h0
    · exact pairs_spec len b off len cap zs w hz (Nat.le_refl _) hc hlen hc2 (by omega) hb
end Go.Proofs.Ytpjplcbcbabbnaa
