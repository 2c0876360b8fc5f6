/-
  The parts of a text of a number: where it is cut, how its whole numbers are read. Plain. No program in sight.
-/
import Derived.Test.YthadnlekadhgpaaDoorFmtN
import Derived.Lib.Bytealg
import Derived.Lib.AtoiAll
import Derived.Lib.Strings
namespace Go.Proofs.YthadnlekadhgpaaDoor
open Go
theorem idx_cases (l : List UInt8) (c : UInt8) : Lib.indexByte l c = -1 ∨ ∃ i : Nat, i < l.length ∧ Lib.indexByte l c = i := by
  induction l with
  | nil => exact .inl rfl
  | cons b l ih =>
    unfold Lib.indexByte
    split
    · exact .inr ⟨0, by simp, rfl⟩
    · rcases ih with h | ⟨i, hi, h⟩
      · rw [h]; exact .inl rfl
      · right
        refine ⟨i + 1, by simp; omega, ?_⟩
        rw [h, if_neg (by simp)]
        omega
theorem idx_at (a b : List UInt8) (c : UInt8) (h : ∀ x ∈ a, x ≠ c) : Lib.indexByte (a ++ c :: b) c = a.length := by
  induction a with
  | nil => simp [Lib.indexByte]
  | cons x a ih =>
    have h1 : x ≠ c := h x (by simp)
    have h2 := ih fun y hy => h y (by simp [hy])
    rw [List.cons_append]
    unfold Lib.indexByte
    rw [h2, if_neg (by simpa using h1), if_neg (by simp), List.length_cons]
    omega
/-- A text cut at its first 'p'. -/
def cutP (l : List UInt8) : List UInt8 × List UInt8 × Bool :=
  if 0 ≤ Lib.indexByte l 112 then (l.take (Lib.indexByte l 112).toNat, l.drop ((Lib.indexByte l 112).toNat + 1), true) else (l, [], false)
theorem cutP_at (a b : List UInt8) (h : ∀ x ∈ a, x ≠ 112) : cutP (a ++ 112 :: b) = (a, b, true) := by
  unfold cutP
  rw [idx_at a b 112 h, if_pos (by omega), Int.toNat_natCast]
  have e1 : (a ++ 112 :: b).take a.length = a := by simp
  have e2 : (a ++ 112 :: b).drop (a.length + 1) = b := by simp
  rw [e1, e2]
theorem cutP_len (l : List UInt8) : (cutP l).1.length ≤ l.length ∧ (cutP l).2.1.length ≤ l.length := by
  unfold cutP
  split
  · exact ⟨by simp [List.length_take]; omega, by simp⟩
  · exact ⟨Nat.le_refl _, by simp⟩
theorem dgt_val (n : Nat) : (dgt n).toNat = 48 + n % 10 := by
  unfold dgt
  rw [UInt8.toNat_ofNat']
  omega
theorem dec_digit (u : Nat) : ∀ x ∈ Lib.decDigits u, 48 ≤ x.toNat ∧ x.toNat ≤ 57 := by
  induction u using Nat.strongRecOn with
  | _ u ih =>
    intro x hx
    rw [dec_step, List.mem_append] at hx
    rcases hx with hx | hx
    · split at hx
      · cases hx
      · exact ih (u / 10) (by omega) x hx
    · rw [List.mem_singleton] at hx
      subst hx
      rw [dgt_val]
      omega
theorem itoa_chars (n : Int) : ∀ x ∈ Lib.itoa n, x ≠ 112 := by
  intro x hx h
  subst h
  unfold Lib.itoa at hx
  split at hx
  · rw [List.mem_cons] at hx
    rcases hx with hx | hx
    · cases hx
    · have := dec_digit _ _ hx
      simp at this
  · have := dec_digit _ _ hx
    simp at this
theorem dec_ne (u : Nat) : Lib.decDigits u ≠ [] := by rw [dec_step]; simp
theorem parse_dec (u : Nat) (hu : u < 100000000000000000) : ∀ r, Lib.parseUint10 0 (Lib.decDigits u ++ r) = Lib.parseUint10 u r := by
  induction u using Nat.strongRecOn with
  | _ u ih =>
    intro r
    have step : ∀ a, a < 100000000000000000 → Lib.parseUint10 a (dgt u :: r) = Lib.parseUint10 (a * 10 + u % 10) r := fun a ha => by
      rw [Lib.parseUint10, dgt_val, if_pos (by omega), if_neg (by omega), if_neg (by omega)]
      congr 1
      omega
    rw [dec_step]
    by_cases h : u / 10 = 0
    · rw [if_pos h, List.nil_append, List.singleton_append, step 0 (by omega)]
      congr 1
      omega
    · rw [if_neg h, List.append_assoc, ih (u / 10) (by omega) (by omega), List.singleton_append, step _ (by omega)]
      congr 1
      omega
theorem mag_dec (u : Nat) (hu : u < 100000000000000000) : Lib.parseMag (Lib.decDigits u) = .ok u := by
  unfold Lib.parseMag
  rw [if_neg (dec_ne u)]
  have := parse_dec u hu []
  rw [List.append_nil] at this
  rw [this]; rfl
theorem dec_head (u : Nat) : ∃ c r, Lib.decDigits u = c :: r ∧ 48 ≤ c.toNat ∧ c.toNat ≤ 57 := by
  cases h : Lib.decDigits u with
  | nil => exact absurd h (dec_ne u)
  | cons c r => exact ⟨c, r, rfl, dec_digit u c (by rw [h]; simp)⟩
theorem atoi_itoa (n : Int) (h0 : -100000000000000000 < n) (h1 : n < 100000000000000000) : Lib.atoiAll (Lib.itoa n) = .ok n := by
  unfold Lib.itoa
  by_cases hn : n < 0
  · rw [if_pos hn]
    unfold Lib.atoiAll
    simp only [show (45 : UInt8).toNat = 45 from rfl, or_true, if_true]
    rw [mag_dec _ (by omega)]
    simp only [not_true_eq_false, false_and, if_false, true_and]
    rw [if_neg (by omega)]
    congr 1
    omega
  · rw [if_neg hn]
    obtain ⟨c, r, hc, c1, c2⟩ := dec_head n.toNat
    have hm := mag_dec n.toNat (by omega)
    rw [hc] at hm ⊢
    unfold Lib.atoiAll
    simp only [show ¬ c.toNat = 43 by omega, show ¬ c.toNat = 45 by omega, or_self, if_false]
    rw [hm]
    simp only [not_false_eq_true, true_and, false_and, if_false]
    rw [if_neg (by omega)]
    congr 1
    omega
end Go.Proofs.YthadnlekadhgpaaDoor
