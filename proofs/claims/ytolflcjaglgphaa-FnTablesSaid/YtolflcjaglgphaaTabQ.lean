/-
  What the law on tables asks: put, found, dropped; no point nearer than the nearest. Plain. No program in sight.
-/
import Derived.Test.YtolflcjaglgphaaMergeQ
import Derived.Test.YtolflcjaglgphaaNearP
namespace Go.Proofs.Ytolflcjaglgphaa
open Go
/-- Words that are no NaN are ordered by a class and a number. -/
def rkS (x : Nat) : Int := if Ieee.single.rung x < Ieee.single.infRung then 0 else if Ieee.single.sgn x then -1 else 1
def vlS (x : Nat) : Int := if Ieee.single.rung x < Ieee.single.infRung then Ieee.single.val x else 0
theorem s_kinds {x : Nat} (h : isN .f32 x = false) : (Ieee.single.fin x ∧ rkS x = 0 ∧ vlS x = Ieee.single.val x) ∨ (∃ s : Bool, Ieee.single.read x = .infinity s ∧ rkS x = (if s then -1 else 1) ∧ vlS x = 0) := by
  rw [isN_s] at h
  have h := of_decide_eq_false h
  by_cases hf : Ieee.single.rung x < Ieee.single.infRung
  · left
    exact ⟨hf, by unfold rkS; rw [if_pos hf], by unfold vlS; rw [if_pos hf]⟩
  · right
    exact ⟨_, Ieee.single.read_inf (by omega) (by decide), by unfold rkS; rw [if_neg hf], by unfold vlS; rw [if_neg hf]⟩
theorem ord_s {x y : Nat} (hx : isN .f32 x = false) (hy : isN .f32 y = false) :
    (ltS x y = true ↔ (rkS x < rkS y ∨ rkS x = rkS y ∧ vlS x < vlS y)) ∧ (eqS x y = true ↔ (rkS x = rkS y ∧ vlS x = vlS y)) := by
  rcases s_kinds hx with ⟨a, b, c⟩ | ⟨s, a, b, c⟩ <;> rcases s_kinds hy with ⟨a', b', c'⟩ | ⟨s', a', b', c'⟩
  · unfold ltS eqS
    rw [s_lt a a', s_eq a a', b, c, b', c']
    simp
  · unfold ltS eqS
    rw [show FloatKind.f32.format = Ieee.single from rfl, order_inf_right a a', b, b', c']
    cases s' <;> simp
  · unfold ltS eqS
    rw [show FloatKind.f32.format = Ieee.single from rfl, order_inf_left a a', b, b', c]
    cases s <;> simp
  · unfold ltS eqS
    rw [show FloatKind.f32.format = Ieee.single from rfl, b, b', c, c']
    unfold Ieee.Format.order
    rw [a, a']
    cases s <;> cases s' <;> decide
theorem lt_nan_left {x y : Nat} (h : isN .f32 x = true) : ltS x y = false := by unfold ltS; rw [order_nan_left h]; rfl
theorem eq_nan_left {x y : Nat} (h : isN .f32 x = true) : eqS x y = false := by unfold eqS; rw [order_nan_left h]; rfl
/-- The nearest of the first k. -/
def Best (ps : List (Nat × Nat)) (z : Nat × Nat) (k : Nat) (st : Int × Nat) : Prop :=
  (st.1 < 0 ∧ ∀ m (hm : m < ps.length), m < k → isN .f32 (distP ps[m] z) = true) ∨
  (∃ j, ∃ hj : j < ps.length, j < k ∧ st = ((j : Int), distP ps[j] z) ∧ isN .f32 (distP ps[j] z) = false ∧
    ∀ m (hm : m < ps.length), m < k → isN .f32 (distP ps[m] z) = false → ltS (distP ps[m] z) (distP ps[j] z) = false ∧ (m < j → eqS (distP ps[m] z) (distP ps[j] z) = false))
theorem best_at (ps : List (Nat × Nat)) (z : Nat × Nat) (k : Nat) (hk : k ≤ ps.length) : Best ps z k (nearTo ps z k) := by
  induction k with
  | zero => rw [near_zero]; exact .inl ⟨by decide, fun m _ h => absurd h (Nat.not_lt_zero _)⟩
  | succ k ih =>
    have ih := ih (by omega)
    have hk' : k < ps.length := by omega
    cases hn : isN .f32 (distP ps[k] z) with
    | true =>
      rw [near_miss hk' (by unfold takes; rw [eqS_self, hn]; rfl)]
      rcases ih with ⟨h1, h2⟩ | ⟨j, hj, h1, h2, h3, h4⟩
      · exact .inl ⟨h1, fun m hm hmk => by
          by_cases e : m = k
          · subst e; exact hn
          · exact h2 m hm (by omega)⟩
      · exact .inr ⟨j, hj, by omega, h2, h3, fun m hm hmk hmn => by
          by_cases e : m = k
          · subst e; rw [hn] at hmn; cases hmn
          · exact h4 m hm (by omega) hmn⟩
    | false =>
      rcases ih with ⟨h1, h2⟩ | ⟨j, hj, h1, h2, h3, h4⟩
      · rw [near_hit hk' (by unfold takes; rw [eqS_self, hn, decide_eq_true h1]; rfl)]
        refine .inr ⟨k, hk', by omega, rfl, hn, fun m hm hmk hmn => ?_⟩
        by_cases e : m = k
        · subst e
          refine ⟨?_, fun h => absurd h (Nat.lt_irrefl _)⟩
          cases hl : ltS (distP ps[m] z) (distP ps[m] z) with
          | false => rfl
          | true => have := (ord_s hn hn).1.1 hl; omega
        · rw [h2 m hm (by omega)] at hmn; cases hmn
      · cases hl : ltS (distP ps[k] z) (distP ps[j] z) with
        | false =>
          rw [near_miss hk' (by unfold takes; rw [h2]; show (_ && (decide ((j : Int) < 0) || ltS (distP ps[k] z) (distP ps[j] z))) = false; rw [hl, decide_eq_false (show ¬ (j : Int) < 0 by omega)]; simp)]
          refine .inr ⟨j, hj, by omega, h2, h3, fun m hm hmk hmn => ?_⟩
          by_cases e : m = k
          · subst e; exact ⟨hl, fun h => by omega⟩
          · exact h4 m hm (by omega) hmn
        | true =>
          rw [near_hit hk' (by unfold takes; rw [eqS_self, hn, h2]; show (_ && (decide ((j : Int) < 0) || ltS (distP ps[k] z) (distP ps[j] z))) = true; rw [hl]; simp)]
          have c1 := (ord_s hn h3).1.1 hl
          refine .inr ⟨k, hk', by omega, rfl, hn, fun m hm hmk hmn => ?_⟩
          by_cases e : m = k
          · subst e
            refine ⟨?_, fun h => absurd h (Nat.lt_irrefl _)⟩
            cases hl : ltS (distP ps[m] z) (distP ps[m] z) with
            | false => rfl
            | true => have := (ord_s hn hn).1.1 hl; omega
          · have c2 := (h4 m hm (by omega) hmn).1
            have c3 : ¬ (rkS (distP ps[m] z) < rkS (distP ps[j] z) ∨ rkS (distP ps[m] z) = rkS (distP ps[j] z) ∧ vlS (distP ps[m] z) < vlS (distP ps[j] z)) := fun h => by rw [(ord_s hmn h3).1.2 h] at c2; cases c2
            refine ⟨?_, fun _ => ?_⟩
            · cases hl : ltS (distP ps[m] z) (distP ps[k] z) with
              | false => rfl
              | true => have := (ord_s hmn hn).1.1 hl; omega
            · cases hl : eqS (distP ps[m] z) (distP ps[k] z) with
              | false => rfl
              | true => have := (ord_s hmn hn).2.1 hl; omega
/-- No point is nearer than the nearest; none before it is as near. -/
theorem near_best {ps : List (Nat × Nat)} {z : Nat × Nat} {k : Nat} (hk : k < ps.length) (h : eqS (distP ps[k] z) (distP ps[k] z) = true) :
    ∃ j, ∃ hj : j < ps.length, nearI ps z = j ∧ ltS (distP ps[k] z) (distP ps[j] z) = false ∧ (k < j → eqS (distP ps[k] z) (distP ps[j] z) = false) := by
  rw [eqS_self] at h
  have hn : isN .f32 (distP ps[k] z) = false := by simpa using h
  rw [nearI_to]
  rcases best_at ps z ps.length (Nat.le_refl _) with ⟨h1, h2⟩ | ⟨j, hj, h1, h2, h3, h4⟩
  · rw [h2 k hk hk] at hn; cases hn
  · exact ⟨j, hj, by rw [h2], (h4 k hk hk hn).1, (h4 k hk hk hn).2⟩
/-- A NaN is nowhere. -/
theorem idx_nan {ps : List (Nat × Nat)} {z : Nat × Nat} (h : isN .f32 z.1 = true) : idxI ps z = -1 :=
  idx_miss fun j hj => by
    unfold ceq
    rw [order_nan_right h]; rfl
/-- What is put is found. -/
theorem put_fin {t u : Tab} {z : Nat × Nat} {l : Int} (h : putP t.1 t.2 z l = some u) : cfin z = true ∨ 0 ≤ idxI t.1 z ∧ u = (t.1, t.2.set (idxI t.1 z).toNat l) := by
  unfold putP at h
  split at h
  · split at h
    · rename_i h2; cases h; exact .inr ⟨h2, rfl⟩
    · split at h
      · rename_i h3
        left
        have := tab_fin (t := (t.1 ++ [z], t.2 ++ [l])) h3 t.1.length (by simp)
        simpa using this
      · cases h
  · cases h
theorem ceq_fin {p z : Nat × Nat} (hp : cfin p = true) (h : ceq p z = true) : cfin z = true := by
  obtain ⟨p1, p2⟩ := cfin_iff.1 hp
  unfold ceq at h
  rw [Bool.and_eq_true] at h
  have one {a b : Nat} (ha : Ieee.single.fin a) (hb : (FloatKind.f32.format.order a b == some .eq) = true) : Ieee.single.fin b := by
    cases hn : isN .f32 b with
    | true => rw [order_nan_right hn] at hb; cases hb
    | false =>
      rcases s_kinds hn with ⟨g, -, -⟩ | ⟨s, g, -, -⟩
      · exact g
      · rw [show FloatKind.f32.format = Ieee.single from rfl, order_inf_right ha g] at hb
        cases s <;> cases hb
  exact cfin_iff.2 ⟨one p1 h.1, one p2 h.2⟩
theorem idx_fin {t : Tab} {z : Nat × Nat} (ht : isTab t.1 t.2.length = true) (h : 0 ≤ idxI t.1 z) : cfin z = true := by
  rcases idx_cases t.1 z with ⟨k, hk, h1, h2, -⟩ | ⟨h1, -⟩
  · exact ceq_fin (tab_fin ht k hk) h2
  · omega
theorem put_found {t u : Tab} {z : Nat × Nat} {l : Int} (ht : isTab t.1 t.2.length = true) (h : putP t.1 t.2 z l = some u) : findIn u z l := by
  have hz : cfin z = true := by
    rcases put_fin h with h | ⟨h, -⟩
    · exact h
    · exact idx_fin ht h
  exact findIn_lk (by rw [lk_put ht hz h hz, if_pos rfl])
/-- What is dropped is not found. -/
theorem erase_gone {u : Tab} {z : Nat × Nat} {j : Nat} (hu : isTab u.1 u.2.length = true) (hj : idxI u.1 z = (j : Int)) : idxI (u.1.eraseIdx j) z = -1 := by
  have hf := tab_fin hu
  have hz : cfin z = true := idx_fin hu (by omega)
  rcases idx_cases u.1 z with ⟨k, hk, h1, h2, h3⟩ | ⟨h1, -⟩
  · obtain rfl : k = j := by omega
    rw [ceq_key (hf k hk) hz] at h2
    have h2 := of_decide_eq_true h2
    refine idx_miss fun m hm => ?_
    rw [List.length_eraseIdx_of_lt hk] at hm
    rw [List.getElem_eraseIdx]
    split
    · exact h3 m (by omega)
    · rename_i hmk
      have := ((of_decide_eq_true hu).2.2 (m + 1) (by omega)).2 k (by omega)
      rw [ceq_key (hf k hk) (hf (m + 1) (by omega))] at this
      rw [ceq_key (hf (m + 1) (by omega)) hz]
      exact decide_eq_false fun he => of_decide_eq_false this (h2.trans he.symm)
  · omega
end Go.Proofs.Ytolflcjaglgphaa
