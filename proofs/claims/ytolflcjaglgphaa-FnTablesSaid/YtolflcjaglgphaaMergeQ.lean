/-
  What is found in a table that was put into, and in merged tables: plain. No program in sight.
-/
import Derived.Test.YtolflcjaglgphaaMergeP
namespace Go.Proofs.Ytolflcjaglgphaa
open Go
/-- The numbers that a finite point stands for. -/
def keyP (p : Nat × Nat) : Int × Int := (Ieee.single.val p.1, Ieee.single.val p.2)
theorem finS_iff {x : Nat} : finS x = true ↔ Ieee.single.fin x := by
  rw [finS_eq]
  unfold Ieee.Format.fin
  exact decide_eq_true_iff
theorem cfin_iff {p : Nat × Nat} : cfin p = true ↔ Ieee.single.fin p.1 ∧ Ieee.single.fin p.2 := by
  unfold cfin
  rw [Bool.and_eq_true, finS_iff, finS_iff]
theorem ceq_key {p q : Nat × Nat} (hp : cfin p = true) (hq : cfin q = true) : ceq p q = decide (keyP p = keyP q) := by
  obtain ⟨p1, p2⟩ := cfin_iff.1 hp
  obtain ⟨q1, q2⟩ := cfin_iff.1 hq
  unfold ceq keyP
  rw [s_eq p1 q1, s_eq p2 q2, ← Bool.decide_and]
  exact decide_eq_decide.2 (by rw [Prod.mk.injEq])
/-- What is found at a point. -/
def lk (t : Tab) (z : Nat × Nat) : Option Int := if 0 ≤ idxI t.1 z then some (t.2.getD (idxI t.1 z).toNat 0) else none
def allFin (ps : List (Nat × Nat)) : Prop := ∀ k (hk : k < ps.length), cfin ps[k] = true
theorem tab_fin {t : Tab} (h : isTab t.1 t.2.length = true) : allFin t.1 := fun k hk => ((of_decide_eq_true h).2.2 k hk).1
theorem idx_is {ps : List (Nat × Nat)} {z : Nat × Nat} {k : Nat} (hf : allFin ps) (hz : cfin z = true) (hk : k < ps.length) (h : keyP ps[k] = keyP z) (hb : ∀ j (hj : j < k), keyP (ps[j]'(by omega)) ≠ keyP z) : idxI ps z = k :=
  idx_hit hk (by rw [ceq_key (hf k hk) hz]; exact decide_eq_true h) (fun j hj => by rw [ceq_key (hf j (by omega)) hz]; exact decide_eq_false (hb j hj))
theorem idx_no {ps : List (Nat × Nat)} {z : Nat × Nat} (hf : allFin ps) (hz : cfin z = true) (h : ∀ j (hj : j < ps.length), keyP ps[j] ≠ keyP z) : idxI ps z = -1 :=
  idx_miss fun j hj => by rw [ceq_key (hf j hj) hz]; exact decide_eq_false (h j hj)
theorem idx_split {ps : List (Nat × Nat)} {z : Nat × Nat} (hf : allFin ps) (hz : cfin z = true) :
    (∃ k, ∃ hk : k < ps.length, idxI ps z = k ∧ keyP ps[k] = keyP z ∧ ∀ j (hj : j < k), keyP (ps[j]'(by omega)) ≠ keyP z) ∨ (idxI ps z = -1 ∧ ∀ j (hj : j < ps.length), keyP ps[j] ≠ keyP z) := by
  rcases idx_cases ps z with ⟨k, hk, h1, h2, h3⟩ | ⟨h1, h2⟩
  · rw [ceq_key (hf k hk) hz] at h2
    exact .inl ⟨k, hk, h1, of_decide_eq_true h2, fun j hj => by have := h3 j hj; rw [ceq_key (hf j (by omega)) hz] at this; exact of_decide_eq_false this⟩
  · exact .inr ⟨h1, fun j hj => by have := h2 j hj; rw [ceq_key (hf j hj) hz] at this; exact of_decide_eq_false this⟩
theorem lk_none {t : Tab} {z : Nat × Nat} (h : idxI t.1 z = -1) : lk t z = none := by unfold lk; rw [if_neg (by omega)]
theorem lk_some {t : Tab} {z : Nat × Nat} {k : Nat} (h : idxI t.1 z = k) : lk t z = some (t.2.getD k 0) := by unfold lk; rw [h, if_pos (by omega)]; rfl
theorem lk_put {t t' : Tab} {p : Nat × Nat} {l : Int} (ht : isTab t.1 t.2.length = true) (hp : cfin p = true) (h : putP t.1 t.2 p l = some t') {z : Nat × Nat} (hz : cfin z = true) :
    lk t' z = if keyP p = keyP z then some l else lk t z := by
  have hf := tab_fin ht
  have hl : t.1.length = t.2.length := (of_decide_eq_true ht).1
  unfold putP at h
  rw [if_pos ht] at h
  rcases idx_split hf hp with ⟨j, hj, e1, e2, e3⟩ | ⟨e1, e2⟩
  · rw [e1, if_pos (by omega)] at h
    cases h
    simp only [Int.toNat_natCast]
    rcases idx_split hf hz with ⟨k, hk, f1, f2, f3⟩ | ⟨f1, f2⟩
    · rw [lk_some (t := (t.1, t.2.set j l)) f1, lk_some f1]
      by_cases hpz : keyP p = keyP z
      · rw [if_pos hpz]
        have hkj : k = j := by
          rcases Nat.lt_trichotomy k j with h | h | h
          · exact absurd (f2.trans hpz.symm) (e3 k h)
          · exact h
          · exact absurd (e2.trans hpz) (f3 j h)
        subst hkj
        simp [List.getD_eq_getElem?_getD, show k < t.2.length by omega]
      · rw [if_neg hpz]
        have hkj : j ≠ k := fun h => by subst h; exact hpz (e2.symm.trans f2)
        simp [List.getD_eq_getElem?_getD, hkj]
    · rw [lk_none (t := (t.1, t.2.set j l)) f1, lk_none f1]
      rw [if_neg fun hpz => f2 j hj (e2.trans hpz)]
  · rw [e1, if_neg (by omega)] at h
    split at h
    · rename_i hn
      cases h
      have hf' : allFin (t.1 ++ [p]) := tab_fin (t := (t.1 ++ [p], t.2 ++ [l])) hn
      rcases idx_split hf hz with ⟨k, hk, f1, f2, f3⟩ | ⟨f1, f2⟩
      · have g1 : idxI (t.1 ++ [p]) z = k := idx_is hf' hz (by simp; omega) (by rw [List.getElem_append_left hk]; exact f2) (fun j hj => by rw [List.getElem_append_left (by omega)]; exact f3 j hj)
        rw [lk_some (t := (t.1 ++ [p], t.2 ++ [l])) g1, lk_some f1, if_neg fun hpz => e2 k hk (f2.trans hpz.symm)]
        simp [List.getD_eq_getElem?_getD, List.getElem?_append_left (show k < t.2.length by omega)]
      · by_cases hpz : keyP p = keyP z
        · have g1 : idxI (t.1 ++ [p]) z = (t.1.length : Nat) := idx_is hf' hz (by simp) (by rw [List.getElem_append_right (Nat.le_refl _)]; simpa using hpz) (fun j hj => by rw [List.getElem_append_left hj]; exact f2 j hj)
          rw [lk_some (t := (t.1 ++ [p], t.2 ++ [l])) g1, if_pos hpz]
          simp [List.getD_eq_getElem?_getD, hl]
        · have g1 : idxI (t.1 ++ [p]) z = -1 := idx_no hf' hz fun j hj => by
            by_cases hjl : j < t.1.length
            · rw [List.getElem_append_left hjl]; exact f2 j hjl
            · rw [List.getElem_append_right (by omega)]; simpa using hpz
          rw [lk_none (t := (t.1 ++ [p], t.2 ++ [l])) g1, lk_none f1, if_neg hpz]
    · cases h
theorem put_tab {t t' : Tab} {p : Nat × Nat} {l : Int} (h : putP t.1 t.2 p l = some t') : isTab t'.1 t'.2.length = true ∧ t.1.length ≤ t'.1.length ∧ t'.1.length ≤ t.1.length + 1 := by
  unfold putP at h
  split at h
  · rename_i h1
    split at h
    · cases h; rw [List.length_set]; exact ⟨h1, by simp, by simp⟩
    · split at h
      · rename_i h2; cases h; exact ⟨h2, by simp, by simp⟩
      · cases h
  · cases h
theorem merge_tab {xs : List ((Nat × Nat) × Int)} : ∀ {t T : Tab}, isTab t.1 t.2.length = true → mergeF xs t = some T → isTab T.1 T.2.length = true ∧ T.1.length ≤ t.1.length + xs.length := by
  induction xs with
  | nil => intro t T ht h; cases h; exact ⟨ht, by simp⟩
  | cons x xs ih =>
    obtain ⟨q, m⟩ := x
    intro t T ht h
    change (putP t.1 t.2 q m).bind (mergeF xs) = some T at h
    cases hp : putP t.1 t.2 q m with
    | none => rw [hp] at h; cases h
    | some c =>
      rw [hp] at h
      obtain ⟨h1, h2⟩ := ih (put_tab hp).1 h
      have := (put_tab hp).2.2
      exact ⟨h1, by simp only [List.length_cons]; omega⟩
theorem merge_other {xs : List ((Nat × Nat) × Int)} : ∀ {t T : Tab}, isTab t.1 t.2.length = true → (∀ x ∈ xs, cfin x.1 = true) → mergeF xs t = some T → ∀ {z}, cfin z = true → (∀ x ∈ xs, keyP x.1 ≠ keyP z) → lk T z = lk t z := by
  induction xs with
  | nil => intro t T _ _ h z _ _; cases h; rfl
  | cons x xs ih =>
    obtain ⟨q, m⟩ := x
    intro t T ht hf h z hz hne
    change (putP t.1 t.2 q m).bind (mergeF xs) = some T at h
    cases hp : putP t.1 t.2 q m with
    | none => rw [hp] at h; cases h
    | some c =>
      rw [hp] at h
      rw [ih (put_tab hp).1 (fun x hx => hf x (List.mem_cons_of_mem _ hx)) h hz (fun x hx => hne x (List.mem_cons_of_mem _ hx)),
        lk_put ht (hf (q, m) List.mem_cons_self) hp hz, if_neg (hne (q, m) List.mem_cons_self)]
theorem merge_hit {xs : List ((Nat × Nat) × Int)} : ∀ {t T : Tab}, isTab t.1 t.2.length = true → (∀ x ∈ xs, cfin x.1 = true) → List.Pairwise (fun x y : (Nat × Nat) × Int => keyP x.1 ≠ keyP y.1) xs → mergeF xs t = some T →
    ∀ {x}, x ∈ xs → lk T x.1 = some x.2 := by
  induction xs with
  | nil => intro t T _ _ _ _ x hx; cases hx
  | cons y xs ih =>
    obtain ⟨q, m⟩ := y
    intro t T ht hf hd h x hx
    change (putP t.1 t.2 q m).bind (mergeF xs) = some T at h
    cases hp : putP t.1 t.2 q m with
    | none => rw [hp] at h; cases h
    | some c =>
      rw [hp] at h
      obtain ⟨hd1, hd2⟩ := List.pairwise_cons.1 hd
      rcases List.mem_cons.1 hx with rfl | hx
      · have hq : cfin q = true := hf (q, m) List.mem_cons_self
        show lk T q = some m
        rw [merge_other (put_tab hp).1 (fun x hx => hf x (List.mem_cons_of_mem _ hx)) h hq (fun x hx he => hd1 x hx he.symm), lk_put ht hq hp hq, if_pos rfl]
      · exact ih (put_tab hp).1 (fun x hx => hf x (List.mem_cons_of_mem _ hx)) hd2 h hx
theorem lk_own {t : Tab} (ht : isTab t.1 t.2.length = true) {k : Nat} (hk : k < t.1.length) : idxI t.1 t.1[k] = k := by
  have hf := tab_fin ht
  refine idx_is hf (hf k hk) hk rfl fun j hj he => ?_
  have := ((of_decide_eq_true ht).2.2 k hk).2 j hj
  rw [ceq_key (hf j (by omega)) (hf k hk)] at this
  exact of_decide_eq_false this he
def findIn (T : Tab) (z : Nat × Nat) (l : Int) : Prop := 0 ≤ idxI T.1 z ∧ T.2.getD (idxI T.1 z).toNat 0 = l
theorem findIn_lk {T : Tab} {z : Nat × Nat} {l : Int} (h : lk T z = some l) : findIn T z l := by
  unfold lk at h
  split at h
  · rename_i h0; exact ⟨h0, Option.some.inj h⟩
  · cases h
/-- What the law asks of merged tables. -/
structure MergeOk (A B T : Tab) : Prop where
  tab : isTab T.1 T.2.length = true
  len : T.1.length ≤ A.1.length + B.1.length
  second : ∀ i (hi : i < B.1.length) (hi2 : i < B.2.length), findIn T B.1[i] B.2[i]
  first : ∀ i (hi : i < A.1.length) (hi2 : i < A.2.length), 0 ≤ idxI T.1 A.1[i] ∧ (0 ≤ idxI B.1 A.1[i] ∨ findIn T A.1[i] A.2[i])
theorem zip_fin {B : Tab} (fB : allFin B.1) : ∀ x ∈ B.1.zip B.2, cfin x.1 = true := fun x hx => by
  obtain ⟨k, hk, rfl⟩ := List.getElem_of_mem hx
  have hk' : k < B.1.length := by rw [List.length_zip] at hk; omega
  rw [List.getElem_zip]
  exact fB k hk'
theorem zip_dist {B : Tab} (hB : isTab B.1 B.2.length = true) : List.Pairwise (fun x y : (Nat × Nat) × Int => keyP x.1 ≠ keyP y.1) (B.1.zip B.2) := by
  have fB := tab_fin hB
  rw [List.pairwise_iff_getElem]
  intro i j hi hj hij
  have hj' : j < B.1.length := by rw [List.length_zip] at hj; omega
  rw [List.getElem_zip, List.getElem_zip]
  have := ((of_decide_eq_true hB).2.2 j hj').2 i hij
  rw [ceq_key (fB i (by omega)) (fB j hj')] at this
  exact of_decide_eq_false this
theorem zip_mem {B : Tab} {i : Nat} (hi : i < B.1.length) (hi2 : i < B.2.length) : (B.1[i], B.2[i]) ∈ B.1.zip B.2 := by
  have hz : i < (B.1.zip B.2).length := by rw [List.length_zip]; omega
  have := List.getElem_mem hz
  rwa [List.getElem_zip] at this
theorem idx_same {T : Tab} (fT : allFin T.1) {p q : Nat × Nat} (hp : cfin p = true) (hq : cfin q = true) (he : keyP p = keyP q) : idxI T.1 p = idxI T.1 q := by
  rcases idx_split fT hq with ⟨m, hm, f1, f2, f3⟩ | ⟨f1, f2⟩
  · rw [f1]; exact idx_is fT hp hm (f2.trans he.symm) (fun j hj => by rw [he]; exact f3 j hj)
  · rw [f1]; exact idx_no fT hp (fun j hj => by rw [he]; exact f2 j hj)
theorem mergeP_F {A B T : Tab} (hA : isTab A.1 A.2.length = true) (hB : isTab B.1 B.2.length = true) (h : mergeP A B = some T) : mergeF (B.1.zip B.2) A = some T := by
  unfold mergeP at h
  rw [hA, hB] at h
  exact h
theorem merge_second {A B T : Tab} (hA : isTab A.1 A.2.length = true) (hB : isTab B.1 B.2.length = true) (h : mergeF (B.1.zip B.2) A = some T) {i : Nat} (hi : i < B.1.length) (hi2 : i < B.2.length) : lk T B.1[i] = some B.2[i] :=
  merge_hit (x := (B.1[i], B.2[i])) hA (zip_fin (tab_fin hB)) (zip_dist hB) h (zip_mem hi hi2)
theorem merge_first_in {A B T : Tab} (hA : isTab A.1 A.2.length = true) (hB : isTab B.1 B.2.length = true) (h : mergeF (B.1.zip B.2) A = some T) {z : Nat × Nat} (hz : cfin z = true) (hi : 0 ≤ idxI B.1 z) : 0 ≤ idxI T.1 z := by
  have fB := tab_fin hB
  have lB : B.1.length = B.2.length := (of_decide_eq_true hB).1
  rcases idx_split fB hz with ⟨k, hk, e1, e2, -⟩ | ⟨e1, e2⟩
  · have hk2 : k < B.2.length := by omega
    have g := findIn_lk (merge_second hA hB h hk hk2)
    rw [idx_same (tab_fin (merge_tab hA h).1) hz (fB k hk) e2.symm]
    exact g.1
  · omega
theorem merge_first_out {A B T : Tab} (hA : isTab A.1 A.2.length = true) (hB : isTab B.1 B.2.length = true) (h : mergeF (B.1.zip B.2) A = some T) {i : Nat} (hi : i < A.1.length) (hi2 : i < A.2.length) (hn : ¬ 0 ≤ idxI B.1 A.1[i]) : findIn T A.1[i] A.2[i] := by
  have fB := tab_fin hB
  have fA := tab_fin hA
  rcases idx_split fB (fA i hi) with ⟨k, hk, e1, e2, -⟩ | ⟨e1, e2⟩
  · rw [e1] at hn; omega
  · have hl : lk T A.1[i] = lk A A.1[i] := merge_other hA (zip_fin fB) h (fA i hi) (fun x hx => by
      obtain ⟨k, hk, rfl⟩ := List.getElem_of_mem hx
      have hk' : k < B.1.length := by rw [List.length_zip] at hk; omega
      rw [List.getElem_zip]
      exact e2 k hk')
    rw [lk_some (lk_own hA hi), List.getD_eq_getElem?_getD, List.getElem?_eq_getElem hi2] at hl
    exact findIn_lk hl
theorem mergeOk {A B T : Tab} (hA : isTab A.1 A.2.length = true) (hB : isTab B.1 B.2.length = true) (h0 : mergeP A B = some T) : MergeOk A B T := by
  have h := mergeP_F hA hB h0
  have hz : (B.1.zip B.2).length ≤ B.1.length := by rw [List.length_zip]; exact Nat.min_le_left _ _
  refine ⟨(merge_tab hA h).1, Nat.le_trans (merge_tab hA h).2 (Nat.add_le_add_left hz _), fun i hi hi2 => findIn_lk (merge_second hA hB h hi hi2), fun i hi hi2 => ?_⟩
  by_cases hn : 0 ≤ idxI B.1 A.1[i]
  · exact ⟨merge_first_in hA hB h (tab_fin hA i hi) hn, .inl hn⟩
  · have g := merge_first_out hA hB h hi hi2 hn
    exact ⟨g.1, .inr g⟩
end Go.Proofs.Ytolflcjaglgphaa
