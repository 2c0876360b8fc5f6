/-
  Sums of small integers are exact, in any order. No program in sight.
-/
import Derived.Test.YtpjplcbcbabbnaaTwoF
import Derived.Test.YtpjplcbcbabbnaaSumS
import Derived.Test.YtpjplcbcbabbnaaSumD
import Derived.Test.YtpjplcbcbabbnaaSumP
namespace Go.Proofs.Ytpjplcbcbabbnaa
open Go

/-- A word that is the whole number t. -/
def IsI (x : Nat) (t : Int) : Prop := Ieee.single.fin x ∧ Ieee.single.val x = t * 33554432 * K25
theorem isI_zero : IsI 0 0 := ⟨s_fin0, by rw [s_val0]; simp⟩
theorem rI_int {t : Int} (h1 : -16777216 < t) (h2 : t < 16777216) : rI (t * 33554432) = t * 33554432 := rI_exact (i := 25) (c := t) rfl h1 h2
theorem isI_add {x y : Nat} {s t : Int} (hx : IsI x s) (hy : IsI y t) (h1 : -16777216 < s + t) (h2 : s + t < 16777216) : IsI (fop .add .f32 x y) (s + t) := by
  have h := add_scale hx hy (by omega) (by omega)
  rw [← Int.add_mul, rI_int h1 h2] at h
  exact h
theorem isI_sub {x y : Nat} {s t : Int} (hx : IsI x s) (hy : IsI y t) (h1 : -16777216 < s - t) (h2 : s - t < 16777216) : IsI (fop .sub .f32 x y) (s - t) := by
  have h := sub_scale hx hy (by omega) (by omega)
  rw [← Int.sub_mul, rI_int h1 h2] at h
  exact h
theorem isI_same {x y : Nat} {t : Int} (hx : IsI x t) (hy : IsI y t) : FloatKind.f32.format.order x y = some .eq := by
  show Ieee.single.order x y = _
  rw [Ieee.single.order_fin hx.1 hy.1, hx.2, hy.2]; simp
/-- Words of small whole numbers, with their sum. -/
inductive Ints : List Nat → Int → Prop
  | nil : Ints [] 0
  | cons {x : Nat} {t s : Int} {xs : List Nat} : IsI x t → -1000 ≤ t → t ≤ 1000 → Ints xs s → Ints (x :: xs) (t + s)
theorem Ints.bd {xs : List Nat} {s : Int} (h : Ints xs s) : -(1000 * (xs.length : Int)) ≤ s ∧ s ≤ 1000 * (xs.length : Int) := by
  induction h with
  | nil => simp
  | cons _ h1 h2 _ ih => simp only [List.length_cons]; omega
theorem Ints.append {xs ys : List Nat} {s t : Int} (h : Ints xs s) (g : Ints ys t) : Ints (xs ++ ys) (s + t) := by
  induction h with
  | nil => simpa using g
  | cons h0 h1 h2 _ ih => rw [Int.add_assoc]; exact .cons h0 h1 h2 ih
theorem Ints.split {xs : List Nat} {s : Int} (h : Ints xs s) (k : Nat) : ∃ a b, Ints (xs.take k) a ∧ Ints (xs.drop k) b ∧ s = a + b := by
  induction h generalizing k with
  | nil => exact ⟨0, 0, by simpa using Ints.nil, by simpa using Ints.nil, rfl⟩
  | cons h0 h1 h2 h3 ih =>
    cases k with
    | zero => exact ⟨0, _, .nil, .cons h0 h1 h2 h3, by simp⟩
    | succ k =>
      obtain ⟨a, b, ha, hb, rfl⟩ := ih k
      exact ⟨_, b, .cons h0 h1 h2 ha, hb, by omega⟩
theorem foldF {xs : List Nat} {s : Int} (h : Ints xs s) : ∀ (x : Nat) (t B : Int), IsI x t → -B ≤ t → t ≤ B → B + 1000 * (xs.length : Int) < 16777216 → IsI (xs.foldl (fun s x => fop .add .f32 s x) x) (t + s) := by
  induction h with
  | nil => intro x t B hx _ _ _; simpa using hx
  | @cons y u s xs h0 h1 h2 h3 ih =>
    intro x t B hx b1 b2 hB
    simp only [List.length_cons] at hB
    rw [← Int.add_assoc, List.foldl_cons]
    exact ih _ (t + u) (B + 1000) (isI_add hx h0 (by omega) (by omega)) (by omega) (by omega) (by omega)
theorem intsF {xs : List Nat} {s : Int} (h : Ints xs s) (hl : xs.length ≤ 1000) : IsI (sumF xs) s := by
  have := foldF h 0 0 0 isI_zero (by omega) (by omega) (by omega)
  rwa [Int.zero_add] at this
theorem foldS {xs : List Nat} {s : Int} (h : Ints xs s) : ∀ (x c : Nat) (t B : Int), IsI x t → IsI c 0 → -B ≤ t → t ≤ B → B + 1000 * (xs.length : Int) < 16777216 →
    IsI (xs.foldl steadyStep (x, c)).1 (t + s) := by
  induction h with
  | nil => intro x c t B hx _ _ _ _; simpa using hx
  | @cons y u s xs h0 h1 h2 h3 ih =>
    intro x c t B hx hc b1 b2 hB
    simp only [List.length_cons] at hB
    rw [← Int.add_assoc, List.foldl_cons]
    have g1 := isI_sub h0 hc (by omega) (by omega)
    rw [Int.sub_zero] at g1
    have g2 := isI_add hx g1 (by omega) (by omega)
    have g3 := isI_sub g2 hx (by omega) (by omega)
    rw [show t + u - t = u by omega] at g3
    have g4 := isI_sub g3 g1 (by omega) (by omega)
    rw [Int.sub_self] at g4
    exact ih _ _ (t + u) (B + 1000) g2 g4 (by omega) (by omega) (by omega)
theorem intsS {xs : List Nat} {s : Int} (h : Ints xs s) (hl : xs.length ≤ 1000) : IsI (sumS xs) s := by
  have := foldS h 0 0 0 0 isI_zero isI_zero (by omega) (by omega) (by omega)
  rwa [Int.zero_add] at this
theorem intsP (f : Nat) : ∀ {xs : List Nat} {s : Int}, Ints xs s → xs.length ≤ 1000 → xs.length ≤ f → IsI (sumP f xs) s := by
  induction f with
  | zero =>
    intro xs s h hl hf
    obtain rfl : xs = [] := List.eq_nil_of_length_eq_zero (by omega)
    cases h; exact isI_zero
  | succ f ih =>
    intro xs s h hl hf
    unfold sumP
    by_cases h0 : xs.length = 0
    · rw [if_pos h0]
      obtain rfl : xs = [] := List.eq_nil_of_length_eq_zero h0
      cases h; exact isI_zero
    · rw [if_neg h0]
      by_cases h1 : xs.length = 1
      · rw [if_pos h1]
        cases h with
        | nil => simp at h1
        | @cons y u s xs g0 g1 g2 g3 =>
          obtain rfl : xs = [] := List.eq_nil_of_length_eq_zero (by simpa using h1)
          cases g3
          simpa using g0
      · rw [if_neg h1]
        obtain ⟨a, b, ha, hb, rfl⟩ := h.split (xs.length / 2)
        have ba := ha.bd
        have bb := hb.bd
        have l1 : (xs.take (xs.length / 2)).length = xs.length / 2 := by rw [List.length_take]; omega
        have l2 : (xs.drop (xs.length / 2)).length = xs.length - xs.length / 2 := by rw [List.length_drop]
        rw [l1] at ba
        rw [l2] at bb
        exact isI_add (ih ha (by omega) (by omega)) (ih hb (by omega) (by omega)) (by omega) (by omega)
/-- A double word that is the whole number t. -/
def IsD (x : Nat) (t : Int) : Prop := Ieee.double.fin x ∧ Ieee.double.val x = t * 33554432 * K25 * ((2 ^ 925 : Nat) : Int)
theorem isD_zero : IsD 0 0 := ⟨d_fin0, by rw [d_val0, Int.zero_mul, Int.zero_mul, Int.zero_mul]⟩
theorem isD_wide {x : Nat} {t : Int} (h : IsI x t) : IsD (cop .f32 x .f64) t := by
  obtain ⟨a, b⟩ := val_widen h.1
  exact ⟨a, by rw [b, h.2]⟩
theorem s_rep_int {t : Int} (h1 : -16777216 < t) (h2 : t < 16777216) : Ieee.single.Rep (t * 33554432 * K25).natAbs := by
  have e : (t * 33554432 * K25).natAbs = t.natAbs * 2 ^ 149 := by rw [K25_eq, Int.natAbs_mul, Int.natAbs_mul, Nat.mul_assoc]; rfl
  rw [e]
  refine ⟨⟨t.natAbs, 149, rfl, by rw [s_b]; omega⟩, ?_⟩
  refine Nat.lt_of_lt_of_le (Nat.mul_lt_mul_of_pos_right (show t.natAbs < 2 ^ 24 by omega) (Nat.two_pow_pos 149)) ?_
  rw [← Nat.pow_add]
  exact Nat.pow_le_pow_right (by decide) (by decide)
theorem isD_add {x y : Nat} {s t : Int} (hx : IsD x s) (hy : IsD y t) (h1 : -16777216 < s + t) (h2 : s + t < 16777216) : IsD (fop .add .f64 x y) (s + t) := by
  have e : fop .add .f64 x y = Ieee.double.ofSum (Ieee.double.sgn x && Ieee.double.sgn y) ((s + t) * 33554432 * K25 * ((2 ^ 925 : Nat) : Int)) := by
    unfold fop floatBits
    simp only [show FloatKind.f64.format = Ieee.double from rfl, Ieee.double.add_fin hx.1 hy.1, Option.getD_some]
    rw [hx.2, hy.2, Int.add_mul, Int.add_mul, Int.add_mul]
  have hr : Ieee.double.Rep ((s + t) * 33554432 * K25 * ((2 ^ 925 : Nat) : Int)).natAbs := by
    rw [Int.natAbs_mul, Int.natAbs_natCast]
    exact rep_wide (n := ((s + t) * 33554432 * K25).natAbs) (k := 925) (Nat.le_refl 925) (s_rep_int h1 h2)
  rw [e]
  exact ofSum_val d_e hr
theorem foldD {xs : List Nat} {s : Int} (h : Ints xs s) : ∀ (x : Nat) (t B : Int), IsD x t → -B ≤ t → t ≤ B → B + 1000 * (xs.length : Int) < 16777216 → IsD (xs.foldl (fun s x => fop .add .f64 s (cop .f32 x .f64)) x) (t + s) := by
  induction h with
  | nil => intro x t B hx _ _ _; rw [Int.add_zero]; exact hx
  | @cons y u s xs h0 h1 h2 h3 ih =>
    intro x t B hx b1 b2 hB
    simp only [List.length_cons] at hB
    rw [← Int.add_assoc, List.foldl_cons]
    exact ih _ (t + u) (B + 1000) (isD_add hx (isD_wide h0) (by omega) (by omega)) (by omega) (by omega) (by omega)
theorem intsD {xs : List Nat} {s : Int} (h : Ints xs s) (hl : xs.length ≤ 1000) : IsD (sumD xs) s := by
  have := foldD h 0 0 0 isD_zero (by omega) (by omega) (by omega)
  rwa [Int.zero_add] at this
theorem isD_same {x y : Nat} {t : Int} (hx : IsD x t) (hy : IsD y t) : FloatKind.f64.format.order x y = some .eq := by
  show Ieee.double.order x y = _
  rw [Ieee.double.order_fin hx.1 hy.1, hx.2, hy.2]; exact congrArg some Std.ReflCmp.compare_self
theorem ints_of {zs : List Int} (h : ∀ z ∈ zs, -1000 ≤ z ∧ z ≤ 1000) : ∃ s, Ints (zs.map fi) s := by
  induction zs with
  | nil => exact ⟨0, .nil⟩
  | cons z zs ih =>
    obtain ⟨s, hs⟩ := ih fun x hx => h x (List.mem_cons_of_mem _ hx)
    obtain ⟨h1, h2⟩ := h z (List.mem_cons_self ..)
    exact ⟨_, .cons (third h1 h2).1 h1 h2 hs⟩
end Go.Proofs.Ytpjplcbcbabbnaa
