/-
  A text split at each 'p'; a whole number as the reference reads it. Plain. No program in sight.
-/
import Derived.Test.YthadnlekadhgpaaDoorPrsQ
namespace Go.Proofs.YthadnlekadhgpaaDoor
open Go
def splF : List UInt8 → List UInt8 → List (List UInt8)
  | cur, [] => [cur]
  | cur, c :: r => if c = 112 then cur :: splF [] r else splF (cur ++ [c]) r
/-- The words of a text. -/
def splP (l : List UInt8) : List (List UInt8) := splF [] l
theorem splF_plain (a : List UInt8) (h : ∀ x ∈ a, x ≠ 112) (cur r : List UInt8) : splF cur (a ++ r) = splF (cur ++ a) r := by
  induction a generalizing cur with
  | nil => simp
  | cons c a ih =>
    rw [List.cons_append, splF, if_neg (h c (by simp)), ih (fun y hy => h y (by simp [hy])), List.append_assoc, List.singleton_append]
theorem spl_two (a b : List UInt8) (ha : ∀ x ∈ a, x ≠ 112) (hb : ∀ x ∈ b, x ≠ 112) : splP (a ++ 112 :: b) = [a, b] := by
  unfold splP
  rw [splF_plain a ha, List.nil_append, splF, if_pos rfl]
  have := splF_plain b hb [] []
  rw [List.append_nil, List.nil_append] at this
  rw [this, splF]
theorem splF_len (cur r : List UInt8) : ∀ x ∈ splF cur r, x.length ≤ cur.length + r.length := by
  induction r generalizing cur with
  | nil => intro x hx; rw [splF, List.mem_singleton] at hx; subst hx; simp
  | cons c r ih =>
    intro x hx
    rw [splF] at hx
    split at hx
    · rw [List.mem_cons] at hx
      rcases hx with rfl | hx
      · omega
      · have := ih [] x hx; simp at this ⊢; omega
    · have := ih _ x hx; simp at this ⊢; omega
/-- The digits of a text. -/
def digs : Nat → List UInt8 → Option Nat
  | n, [] => some n
  | n, c :: r => if 48 ≤ c.toNat ∧ c.toNat ≤ 57 then digs (10 * n + (c.toNat - 48)) r else none
def rdBad (l : List UInt8) : Bool := decide (l.length < 1) || (decide (17 < l.length) || ((l.head? == some 48) && decide (1 < l.length)))
def rdN (l : List UInt8) : Int × Bool := if rdBad l then (0, false) else match digs 0 l with | some n => ((n : Int), true) | none => (0, false)
def rdNeg (l : List UInt8) : Bool := match l with | 45 :: c :: _ => c != 45 | _ => false
/-- A whole number as the reference reads it. -/
def rdP (l : List UInt8) : Int × Bool := if rdNeg l then (-(rdN l.tail).1, (rdN l.tail).2 && decide ((rdN l.tail).1 ≠ 0)) else rdN l
theorem digs_dec (u : Nat) : ∀ r, digs 0 (Lib.decDigits u ++ r) = digs u r := by
  induction u using Nat.strongRecOn with
  | _ u ih =>
    intro r
    have step : ∀ a, digs a (dgt u :: r) = digs (10 * a + u % 10) r := fun a => by
      rw [digs, dgt_val, if_pos (by omega)]
      congr 1
      omega
    rw [dec_step]
    by_cases h : u / 10 = 0
    · rw [if_pos h, List.nil_append, List.singleton_append, step 0]
      congr 1
      omega
    · rw [if_neg h, List.append_assoc, ih (u / 10) (by omega), List.singleton_append, step]
      congr 1
      omega
theorem digs_lt : ∀ (l : List UInt8) (n m : Nat), digs n l = some m → m < (n + 1) * 10 ^ l.length
  | [], n, m, h => by
    simp only [digs, Option.some.injEq] at h
    subst h; simp
  | c :: r, n, m, h => by
    rw [digs] at h
    split at h
    · have := digs_lt r _ m h
      rw [List.length_cons, Nat.pow_succ]
      refine Nat.lt_of_lt_of_le this ?_
      rw [Nat.mul_comm (10 ^ r.length), ← Nat.mul_assoc]
      exact Nat.mul_le_mul_right _ (by omega)
    · cases h
theorem rdN_bd (l : List UInt8) : 0 ≤ (rdN l).1 ∧ (rdN l).1 < 1000000000000000000 := by
  unfold rdN
  split
  · decide
  · rename_i hb
    have hl : l.length ≤ 17 := by
      unfold rdBad at hb
      simp at hb
      omega
    cases h : digs 0 l with
    | none => exact ⟨Int.le_refl _, by decide⟩
    | some m =>
      have := digs_lt l 0 m h
      have h2 : 10 ^ l.length ≤ 10 ^ 17 := Nat.pow_le_pow_right (by decide) hl
      refine ⟨by simp, ?_⟩
      show (m : Int) < _
      omega
theorem rdP_bd (l : List UInt8) : -1000000000000000000 < (rdP l).1 ∧ (rdP l).1 < 1000000000000000000 := by
  unfold rdP
  have h1 := rdN_bd l
  have h2 := rdN_bd l.tail
  split
  · show -1000000000000000000 < -(rdN l.tail).1 ∧ -(rdN l.tail).1 < _; omega
  · omega
theorem dec_first (u : Nat) (h : 10 ≤ u) : (Lib.decDigits u).head? ≠ some 48 := by
  induction u using Nat.strongRecOn with
  | _ u ih =>
    rw [dec_step, if_neg (by omega)]
    obtain ⟨c, r, hc, c1, c2⟩ := dec_head (u / 10)
    rw [hc]
    by_cases h2 : 10 ≤ u / 10
    · have := ih (u / 10) (by omega) h2
      rw [hc] at this
      exact this
    · have : Lib.decDigits (u / 10) = [dgt (u / 10)] := by rw [dec_step, if_pos (by omega), List.nil_append]
      rw [hc] at this
      injection this with e1 e2
      simp only [List.cons_append, List.head?_cons, ne_eq, Option.some.injEq]
      intro e
      have := dgt_val (u / 10)
      rw [← e1, e] at this
      have e3 : (48 : UInt8).toNat = 48 := rfl
      omega
theorem nd_le : ∀ (k u : Nat), u < 10 ^ (k + 1) → Lib.nDigits u ≤ k + 1
  | 0, u, h => by rw [Lib.nDigits_small (by simpa using h)]; omega
  | k + 1, u, h => by
    by_cases hu : u < 10
    · rw [Lib.nDigits_small hu]; omega
    · rw [Lib.nDigits_big hu]
      have := nd_le k (u / 10) (by rw [Nat.pow_succ] at h; omega)
      omega
theorem rdN_dec (u : Nat) (h : u < 10000000000000000) : rdN (Lib.decDigits u) = ((u : Int), true) := by
  have hn : (Lib.decDigits u).length = Lib.nDigits u := Lib.decDigits_length u
  have h0 : 1 ≤ Lib.nDigits u := Lib.nDigits_pos u
  have hle : Lib.nDigits u ≤ 16 := nd_le 15 u h
  have hb : rdBad (Lib.decDigits u) = false := by
    unfold rdBad
    rw [hn, decide_eq_false (by omega), decide_eq_false (by omega), Bool.false_or, Bool.false_or]
    by_cases hu : u < 10
    · rw [Lib.nDigits_small hu]; simp
    · rw [beq_eq_false_iff_ne.2 (dec_first u (by omega)), Bool.false_and]
  have hd := digs_dec u []
  rw [List.append_nil, digs] at hd
  unfold rdN
  rw [hb, if_neg (by decide), hd]
theorem rdP_itoa (n : Int) (h0 : -10000000000000000 < n) (h1 : n < 10000000000000000) : rdP (Lib.itoa n) = (n, true) := by
  unfold Lib.itoa
  by_cases hn : n < 0
  · rw [if_pos hn]
    obtain ⟨c, r, hc, c1, c2⟩ := dec_head n.natAbs
    have hr := rdN_dec n.natAbs (by omega)
    have hne : rdNeg (45 :: Lib.decDigits n.natAbs) = true := by
      rw [hc]
      show (c != 45) = true
      rw [bne_iff_ne]
      intro e
      subst e
      simp at c1
    unfold rdP
    rw [hne, if_pos rfl, List.tail_cons, hr]
    simp only [Bool.true_and]
    rw [decide_eq_true (by omega)]
    congr 1
    omega
  · rw [if_neg hn]
    obtain ⟨c, r, hc, c1, c2⟩ := dec_head n.toNat
    have hne : rdNeg (Lib.decDigits n.toNat) = false := by
      rw [hc]
      unfold rdNeg
      split
      · rename_i heq
        injection heq with e1 e2
        subst e1
        simp at c1
      · rfl
    unfold rdP
    rw [hne, if_neg (by decide), rdN_dec _ (by omega)]
    congr 1
    omega
end Go.Proofs.YthadnlekadhgpaaDoor
