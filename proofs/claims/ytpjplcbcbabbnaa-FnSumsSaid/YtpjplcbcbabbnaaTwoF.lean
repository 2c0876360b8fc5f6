/-
  The sum of a third of a small integer and a multiple of 1024, and what is lost in it, are the sum in double precision. No program in sight.
-/
import Derived.Test.YtpjplcbcbabbnaaThird
namespace Go.Proofs.Ytpjplcbcbabbnaa
open Go

theorem third {z : Int} (h1 : -1000 ≤ z) (h2 : z ≤ 1000) : (Ieee.single.fin (fi z) ∧ Ieee.single.val (fi z) = z * 33554432 * K25) ∧
    (Ieee.single.fin (fop .quo .f32 (fi z) 1077936128) ∧ ∃ Y : Int, Ieee.single.val (fop .quo .f32 (fi z) 1077936128) = Y * K25 ∧ -11207180288 ≤ Y ∧ Y ≤ 11207180288 ∧ rI Y = Y) ∧
    (Ieee.single.fin (fop .mul .f32 (fi z) 1149239296) ∧ Ieee.single.val (fop .mul .f32 (fi z) 1149239296) = z * 34359738368 * K25) := by
  have h := List.all_eq_true.1 third_all (z + 1000).toNat (List.mem_range.2 (by omega))
  rw [show (((z + 1000).toNat : Nat) : Int) - 1000 = z by omega] at h
  unfold thirdChk at h
  simp only [Bool.and_eq_true, decide_eq_true_eq, finQ_iff] at h
  obtain ⟨⟨⟨⟨⟨⟨⟨⟨a1, a2⟩, a3⟩, a4⟩, a5⟩, a6⟩, a7⟩, a8⟩, a9⟩ := h
  exact ⟨⟨a1, a2⟩, ⟨a3, _, a4, a5, a6, a7⟩, a8, a9⟩

theorem K25_eq : K25 = ((2 ^ 124 : Nat) : Int) := by unfold K25; rfl
theorem ofSum_scale (z : Bool) {T : Int} (h1 : -1267650600228229401496703205376 < T) (h2 : T < 1267650600228229401496703205376) :
    Ieee.single.fin (Ieee.single.ofSum z (T * K25)) ∧ Ieee.single.val (Ieee.single.ofSum z (T * K25)) = rI T * K25 := by
  have en : (T * K25).natAbs = T.natAbs * 2 ^ 124 := by rw [K25_eq, Int.natAbs_mul]; rfl
  obtain ⟨e1, e2⟩ := rnd_scale T.natAbs 124 (by omega) (Nat.le_refl _)
  have hm : min (Ieee.single.rnd (T.natAbs * 2 ^ 124)) Ieee.single.infRung = Ieee.single.rnd (T.natAbs * 2 ^ 124) := Nat.min_eq_left (Nat.le_of_lt e2)
  have hw : Ieee.single.rnd (T.natAbs * 2 ^ 124) < Ieee.single.signWeight := Nat.lt_trans e2 Ieee.single.infRung_lt'
  unfold Ieee.Format.ofSum Ieee.Format.put
  rw [en, hm]
  constructor
  · unfold Ieee.Format.fin; rw [Ieee.single.rung_word _ hw]; exact e2
  · unfold Ieee.Format.val
    rw [Ieee.single.sgn_word _ hw, Ieee.single.rung_word _ hw, e1]
    have hK : (0 : Int) < K25 := by decide
    unfold rI
    rw [show ((rn24 T.natAbs * 2 ^ 124 : Nat) : Int) = (rn24 T.natAbs : Int) * K25 by rw [K25_eq, Int.natCast_mul]]
    by_cases h0 : T = 0
    · subst h0
      have : rn24 0 = 0 := rfl
      simp [this]
    · have hn : T * K25 ≠ 0 := by
        intro h; rcases Int.mul_eq_zero.1 h with h | h <;> omega
      rw [if_neg hn]
      by_cases hl : T < 0
      · have : T * K25 < 0 := Int.mul_neg_of_neg_of_pos hl hK
        rw [if_pos hl, decide_eq_true this, if_pos rfl, Int.neg_mul]
      · have : ¬ T * K25 < 0 := by have := Int.mul_nonneg (show 0 ≤ T by omega) (Int.le_of_lt hK); omega
        rw [if_neg hl, decide_eq_false this, if_neg (by decide)]
theorem add_scale {x y : Nat} {X Y : Int} (hx : Ieee.single.fin x ∧ Ieee.single.val x = X * K25) (hy : Ieee.single.fin y ∧ Ieee.single.val y = Y * K25)
    (h1 : -1267650600228229401496703205376 < X + Y) (h2 : X + Y < 1267650600228229401496703205376) :
    Ieee.single.fin (fop .add .f32 x y) ∧ Ieee.single.val (fop .add .f32 x y) = rI (X + Y) * K25 := by
  have e : fop .add .f32 x y = Ieee.single.ofSum (Ieee.single.sgn x && Ieee.single.sgn y) ((X + Y) * K25) := by
    unfold fop floatBits
    simp only [show FloatKind.f32.format = Ieee.single from rfl, Ieee.single.add_fin hx.1 hy.1, Option.getD_some]
    rw [hx.2, hy.2, Int.add_mul]
  rw [e]; exact ofSum_scale _ h1 h2
theorem sub_scale {x y : Nat} {X Y : Int} (hx : Ieee.single.fin x ∧ Ieee.single.val x = X * K25) (hy : Ieee.single.fin y ∧ Ieee.single.val y = Y * K25)
    (h1 : -1267650600228229401496703205376 < X - Y) (h2 : X - Y < 1267650600228229401496703205376) :
    Ieee.single.fin (fop .sub .f32 x y) ∧ Ieee.single.val (fop .sub .f32 x y) = rI (X - Y) * K25 := by
  have e : fop .sub .f32 x y = Ieee.single.ofSum (Ieee.single.sgn x && !Ieee.single.sgn y) ((X - Y) * K25) := by
    unfold fop floatBits
    simp only [show FloatKind.f32.format = Ieee.single from rfl, Ieee.single.sub_fin hx.1 hy.1, Option.getD_some]
    rw [hx.2, hy.2, Int.sub_mul]
  rw [e]; exact ofSum_scale _ h1 h2
/-- In double precision, the order of two sums of the same number is 'the same'. -/
theorem d_ofSum_order (z1 z2 : Bool) (T : Int) : Ieee.double.order (Ieee.double.ofSum z1 T) (Ieee.double.ofSum z2 T) = some .eq := by
  by_cases h0 : T = 0
  · subst h0
    have hr : Ieee.double.Rep (Int.natAbs 0) := ⟨⟨0, 0, rfl, by decide +kernel⟩, Nat.two_pow_pos _⟩
    obtain ⟨f1, v1⟩ := ofSum_val (z := z1) d_e hr
    obtain ⟨f2, v2⟩ := ofSum_val (z := z2) d_e hr
    rw [Ieee.double.order_fin f1 f2, v1, v2]; rfl
  · have e : Ieee.double.ofSum z1 T = Ieee.double.ofSum z2 T := by unfold Ieee.Format.ofSum; rw [if_neg h0, if_neg h0]
    rw [e]
    refine order_self (k := .f64) ?_
    rw [isN_d]
    refine decide_eq_false ?_
    unfold Ieee.Format.ofSum Ieee.Format.put
    rw [Ieee.double.rung_word _ (Ieee.double.put_rung_lt _)]
    have := Nat.min_le_right (Ieee.double.rnd T.natAbs) Ieee.double.infRung
    omega
theorem val_widen {x : Nat} (hx : Ieee.single.fin x) : Ieee.double.fin (cop .f32 x .f64) ∧ Ieee.double.val (cop .f32 x .f64) = Ieee.single.val x * ((2 ^ 925 : Nat) : Int) := by
  have e : cop .f32 x .f64 = Ieee.double.put (Ieee.single.sgn x) (Ieee.single.units (Ieee.single.rung x) * 2 ^ 925) := by unfold cop; rw [widen_fin hx]; rfl
  rw [e]
  refine ⟨(Ieee.double.put_exact d_e (widen_rep hx)).1, ?_⟩
  rw [Ieee.double.val_put d_e (widen_rep hx)]
  unfold Ieee.Format.val
  split
  · rw [Int.neg_mul, Int.natCast_mul]
  · rw [Int.natCast_mul]
theorem add_wide {x y : Nat} (hx : Ieee.single.fin x) (hy : Ieee.single.fin y) : ∃ z, fop .add .f64 (cop .f32 x .f64) (cop .f32 y .f64) = Ieee.double.ofSum z ((Ieee.single.val x + Ieee.single.val y) * ((2 ^ 925 : Nat) : Int)) := by
  obtain ⟨f1, v1⟩ := val_widen hx
  obtain ⟨f2, v2⟩ := val_widen hy
  refine ⟨Ieee.double.sgn (cop .f32 x .f64) && Ieee.double.sgn (cop .f32 y .f64), ?_⟩
  unfold fop floatBits
  simp only [show FloatKind.f64.format = Ieee.double from rfl, Ieee.double.add_fin f1 f2, Option.getD_some]
  rw [v1, v2, ← Int.add_mul]
/-- The law on TwoSum. -/
theorem two_law {z1 z2 : Int} (h1 : -1000 ≤ z1) (h2 : z1 ≤ 1000) (h3 : -1000 ≤ z2) (h4 : z2 ≤ 1000) {a b : Nat} (ha : a = fop .quo .f32 (fi z1) 1077936128) (hb : b = fop .mul .f32 (fi z2) 1149239296) :
    Ieee.single.fin (sumOf a b) ∧ Ieee.single.fin (lostOf a b) ∧ FloatKind.f32.format.order (sumOf a b) (sumOf a b) = some .eq ∧
    FloatKind.f64.format.order (fop .add .f64 (cop .f32 (sumOf a b) .f64) (cop .f32 (lostOf a b) .f64)) (fop .add .f64 (cop .f32 a .f64) (cop .f32 b .f64)) = some .eq := by
  obtain ⟨_, ⟨fa, Y, va, y1, y2, y3⟩, _⟩ := third h1 h2
  obtain ⟨_, _, fb, vb⟩ := third h3 h4
  rw [← ha] at fa va
  rw [← hb] at fb vb
  obtain ⟨S, V, eS, eV, s1, s2, v1, v2, eU, eD, eE, eL⟩ := two_ok h3 h4 y1 y2 y3
  have A : Ieee.single.fin a ∧ Ieee.single.val a = Y * K25 := ⟨fa, va⟩
  have B : Ieee.single.fin b ∧ Ieee.single.val b = (z2 * 34359738368) * K25 := ⟨fb, vb⟩
  have xs := add_scale A B (by omega) (by omega)
  rw [eS] at xs
  have xv := sub_scale xs A (by omega) (by omega)
  rw [eV] at xv
  have xu := sub_scale xs xv (by omega) (by omega)
  rw [eU] at xu
  have xd := sub_scale A xu (by omega) (by omega)
  rw [eD] at xd
  have xe := sub_scale B xv (by omega) (by omega)
  rw [eE] at xe
  have xl := add_scale xd xe (by omega) (by omega)
  rw [eL] at xl
  refine ⟨xs.1, xl.1, ?_, ?_⟩
  · show Ieee.single.order _ _ = _
    unfold sumOf
    rw [Ieee.single.order_fin xs.1 xs.1]
    simp
  · obtain ⟨u1, w1⟩ := add_wide xs.1 xl.1
    obtain ⟨u2, w2⟩ := add_wide A.1 B.1
    have et : Ieee.single.val (fop .add .f32 a b) + Ieee.single.val (fop .add .f32 (fop .sub .f32 a (fop .sub .f32 (fop .add .f32 a b) (fop .sub .f32 (fop .add .f32 a b) a))) (fop .sub .f32 b (fop .sub .f32 (fop .add .f32 a b) a))) = Ieee.single.val a + Ieee.single.val b := by
      rw [xs.2, xl.2, A.2, B.2, ← Int.add_mul, ← Int.add_mul]
      congr 1
      omega
    unfold sumOf lostOf
    rw [w1, w2, et]
    exact d_ofSum_order u1 u2 _
end Go.Proofs.Ytpjplcbcbabbnaa
