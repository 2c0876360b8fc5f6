/-
  What a text of a number leads to: its parts, its double, its word. Plain. No program in sight.
-/
import Derived.Test.YthadnlekadhgpaaDoorPrsP
import Derived.Test.YthadnlekadhgpaaDoorLdP
namespace Go.Proofs.YthadnlekadhgpaaDoor
open Go
theorem cval_lt (b : Nat) (hb : (Lit.float .f64 b).wf = true) (w : World) : cval .f64 b .f32 w < 4294967296 := by
  unfold cval
  cases h : floatToFloatBits .f64 b .f32 with
  | some r =>
    have := floatToFloatBits_wf hb h
    simpa [Lit.wf] using this
  | none =>
    show (if isN .f64 b then (Question.nanConv .f32 b).cut _ else (Question.floatToFloat b).cut _) < 4294967296
    split
    · simp only [Question.cut]; omega
    · simp only [Question.cut]; omega
theorem dw_wf (s : Bool) (m j : Nat) : (Lit.float .f64 (dw s m j)).wf = true := by
  have := Ieee.double.put_rung_lt (m * 2 ^ j)
  unfold dw Ieee.Format.put Ieee.Format.word
  rw [d_sw] at this ⊢
  refine wf_of_lt .f64 _ ?_
  show _ < 18446744073709551616
  generalize min (Ieee.double.rnd (m * 2 ^ j)) Ieee.double.infRung = q at *
  split <;> omega
theorem negS_lt {x : Nat} (h : x < 4294967296) : Op.negFloat .f32 x < 4294967296 := by
  have := neg_word h
  unfold negS at this
  rw [this]
  have hr : Ieee.single.rung x < 2147483648 := by unfold Ieee.Format.rung; rw [s_sw]; omega
  split <;> omega
theorem negS_up {r : Nat} (h : r < 2147483648) : Op.negFloat .f32 r = r + 2147483648 := by
  have := neg_word (x := r) (by omega)
  unfold negS at this
  rw [this]
  have hs : Ieee.single.sgn r = false := by unfold Ieee.Format.sgn; rw [s_sw, Nat.div_eq_of_lt h]; rfl
  have hr : Ieee.single.rung r = r := by unfold Ieee.Format.rung; rw [s_sw]; omega
  rw [hs, hr]; rfl
/-- The double of the text of a step, narrowed. -/
theorem fmt_narrow {r : Nat} (h0 : r ≠ 0) (h : r < 2139095040) : floatToFloatBits .f64 (dw false (oddM (mOf r)) (1074 + expR r).toNat) .f32 = some r := by
  have hs := odd_split (mOf_pos h0) (by have := mOf_lt r; omega)
  have hc := ctz_lt (mOf_pos h0) (mOf_lt r)
  have ht := tOf_le h
  have hol := Nat.lt_of_le_of_lt (odd_le (mOf r)) (mOf_lt r)
  have hj : (1074 + expR r).toNat = tOf r + ctzM (mOf r) + 925 := by unfold expR; omega
  have hv : oddM (mOf r) * 2 ^ (tOf r + ctzM (mOf r)) = mOf r * 2 ^ tOf r := by
    conv => rhs; rw [hs.1]
    rw [Nat.mul_assoc, ← Nat.pow_add, Nat.add_comm (tOf r)]
  rw [hj, dw_narrow (by omega) (by omega) (by rw [hv]; exact rep_mt h), hv, put_mt false h]
  rfl
/-- The parts of the text of a step. -/
theorem fmt_cut {r : Nat} (h0 : r ≠ 0) : cutP (fmtR r) = (Lib.itoa (oddM (mOf r)), Lib.itoa (expR r), true) := by
  unfold fmtR
  rw [if_neg h0]
  exact cutP_at _ _ (itoa_chars _)
theorem fmtR_head (r : Nat) : ∃ c t, fmtR r = c :: t ∧ 48 ≤ c.toNat ∧ c.toNat ≤ 57 := by
  unfold fmtR
  split
  · exact ⟨48, [], rfl, by decide, by decide⟩
  · obtain ⟨c, t, h, h1, h2⟩ := dec_head (oddM (mOf r))
    refine ⟨c, t ++ ([112] ++ Lib.itoa (expR r)), ?_, h1, h2⟩
    unfold Lib.itoa
    rw [if_neg (by omega), Int.toNat_natCast, h]; rfl
theorem fmtR_zero {r : Nat} (h0 : r ≠ 0) : fmtR r ≠ [48] := by
  intro h
  have := fmt_cut h0
  rw [h] at this
  have h2 := congrArg (fun x => x.2.2) this
  cases h2
theorem pre_neg (t : List UInt8) : Lib.hasPrefix (45 :: t) [45] = true ∧ Lib.trimPrefix (45 :: t) [45] = t := by
  unfold Lib.trimPrefix Lib.hasPrefix
  simp [List.isPrefixOf]
theorem pre_pos (r : Nat) : Lib.hasPrefix (fmtR r) [45] = false ∧ Lib.trimPrefix (fmtR r) [45] = fmtR r := by
  obtain ⟨c, t, h, h1, h2⟩ := fmtR_head r
  have hc : (45 == c) = false := by
    rw [beq_eq_false_iff_ne]
    intro e
    subst e
    simp at h1
  rw [h]
  unfold Lib.trimPrefix Lib.hasPrefix
  simp [List.isPrefixOf, hc]
/-- What is ahead of the text of a finite word, and what stands behind it. -/
theorem fmt_sign {x : Nat} (hf : finB x = true) : Lib.hasPrefix (fmtS x) [45] = decide (2147483648 ≤ x) ∧ Lib.trimPrefix (fmtS x) [45] = fmtR (x % 2147483648) := by
  unfold fmtS sgnT
  rw [hf, if_pos rfl]
  by_cases h : 2147483648 ≤ x
  · rw [if_pos h, decide_eq_true h]
    exact pre_neg _
  · rw [if_neg h, decide_eq_false h]
    exact pre_pos _
theorem trim_len (l : List UInt8) : (Lib.trimPrefix l [45]).length ≤ l.length := by
  unfold Lib.trimPrefix
  split
  · simp
  · exact Nat.le_refl _
theorem fmt_len (x : Nat) : (fmtS x).length ≤ 100 := by
  unfold fmtS
  split
  · rename_i hf
    have hr : x % 2147483648 < 2139095040 := by unfold finB at hf; simpa using hf
    rw [List.length_append]
    have h1 : (sgnT x).length ≤ 1 := by unfold sgnT; split <;> simp
    have h2 : (fmtR (x % 2147483648)).length ≤ 60 := by
      unfold fmtR
      split
      · simp
      · rename_i h0
        have hb := expR_bd h0 hr
        have hol := Nat.lt_of_le_of_lt (odd_le (mOf (x % 2147483648))) (mOf_lt _)
        have h3 := Lib.itoa_length_le (oddM (mOf (x % 2147483648)) : Int) (by omega) (by omega)
        have h4 := Lib.itoa_length_le (expR (x % 2147483648)) (by omega) (by omega)
        simp only [List.length_append, List.length_singleton]
        omega
    omega
  · simp
end Go.Proofs.YthadnlekadhgpaaDoor
