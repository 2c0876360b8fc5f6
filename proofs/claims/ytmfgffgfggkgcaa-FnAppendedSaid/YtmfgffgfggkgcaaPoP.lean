/-
  Pools as plain lists: leases, which samples are in a room, valid pools. No program in sight.
-/
import Derived.Test.YtmfgffgfggkgcaaSl
namespace Go.Proofs.Ytmfgffgfggkgcaa
open Go
/-- A lease: start, count, room, free. -/
abbrev Ls := Int × Int × Int × Bool
def lsS (l : Ls) : Int := l.1
def lsC (l : Ls) : Int := l.2.1
def lsR (l : Ls) : Int := l.2.2.1
def lsF (l : Ls) : Bool := l.2.2.2
/-- A lease of a pool of n samples. -/
def okL (n : Nat) (l : Ls) : Prop := if lsF l = true then lsS l = 0 ∧ lsC l = 0 ∧ lsR l = 0 else 0 ≤ lsS l ∧ lsS l ≤ n ∧ 1 ≤ lsR l ∧ lsR l ≤ n - lsS l ∧ 0 ≤ lsC l ∧ lsC l ≤ lsR l
instance (n : Nat) (l : Ls) : Decidable (okL n l) := by unfold okL; infer_instance
/-- A sample is in the room of a lease. -/
def inR (j : Int) (l : Ls) : Bool := !lsF l && (decide (lsS l ≤ j) && decide (j < lsS l + lsR l))
def apart (a b : Ls) : Prop := lsF a = true ∨ lsF b = true ∨ lsS a + lsR a ≤ lsS b ∨ lsS b + lsR b ≤ lsS a
instance (a b : Ls) : Decidable (apart a b) := by unfold apart; infer_instance
def cnt (L : List Ls) (j : Int) : Nat := L.countP (inR j)
def oks (n : Nat) (L : List Ls) : Bool := decide (∀ l ∈ L, okL n l)
def isPoolP (n : Nat) (L : List Ls) : Bool := decide (n ≤ 256) && (decide (L.length ≤ 16) && (oks n L && decide (L.Pairwise apart)))
theorem in_room {n : Nat} {l : Ls} (h : okL n l) (hf : lsF l = false) : 0 ≤ lsS l ∧ lsS l ≤ n ∧ 1 ≤ lsR l ∧ lsR l ≤ n - lsS l ∧ 0 ≤ lsC l ∧ lsC l ≤ lsR l := by
  unfold okL at h
  rw [hf, if_neg (by decide)] at h
  exact h
theorem inR_iff (j : Int) (l : Ls) : inR j l = true ↔ lsF l = false ∧ lsS l ≤ j ∧ j < lsS l + lsR l := by
  unfold inR
  simp
/-- Rooms lie apart just where no sample is in two of them. -/
theorem apart_iff {n : Nat} {a b : Ls} (ha : okL n a) (hb : okL n b) : apart a b ↔ ∀ j : Nat, j < n → ¬ (inR j a = true ∧ inR j b = true) := by
  constructor
  · intro h j hj ⟨h1, h2⟩
    rw [inR_iff] at h1 h2
    rcases h with h | h | h | h
    · rw [h1.1] at h; cases h
    · rw [h2.1] at h; cases h
    · omega
    · omega
  · intro h
    cases fa : lsF a with
    | true => exact .inl fa
    | false =>
      cases fb : lsF b with
      | true => exact .inr (.inl fb)
      | false =>
        have ra := in_room ha fa
        have rb := in_room hb fb
        apply Classical.byContradiction
        intro hne
        unfold apart at hne
        rw [fa, fb] at hne
        by_cases hle : lsS a ≤ lsS b
        · refine h (lsS b).toNat (by omega) ⟨(inR_iff _ _).2 ⟨fa, by omega, by omega⟩, (inR_iff _ _).2 ⟨fb, by omega, by omega⟩⟩
        · refine h (lsS a).toNat (by omega) ⟨(inR_iff _ _).2 ⟨fa, by omega, by omega⟩, (inR_iff _ _).2 ⟨fb, by omega, by omega⟩⟩
theorem counts_iff {n : Nat} : ∀ (L : List Ls), (∀ l ∈ L, okL n l) → ((∀ j : Nat, j < n → cnt L j ≤ 1) ↔ L.Pairwise apart)
  | [], _ => ⟨fun _ => .nil, fun _ j _ => by simp [cnt]⟩
  | a :: L, hok => by
    have ih := counts_iff L (fun l hl => hok l (List.mem_cons_of_mem _ hl))
    rw [List.pairwise_cons, ← ih]
    have hc : ∀ j : Nat, cnt (a :: L) j = cnt L j + (if inR j a = true then 1 else 0) := fun j => by unfold cnt; rw [List.countP_cons]
    constructor
    · intro h
      refine ⟨fun b hb => (apart_iff (hok a (List.mem_cons_self ..)) (hok b (List.mem_cons_of_mem _ hb))).2 fun j hj ⟨h1, h2⟩ => ?_, fun j hj => ?_⟩
      · have := h j hj
        rw [hc, if_pos h1] at this
        have h0 : cnt L j = 0 := by omega
        unfold cnt at h0
        rw [List.countP_eq_zero] at h0
        exact h0 b hb h2
      · have := h j hj
        rw [hc] at this
        omega
    · intro ⟨h1, h2⟩ j hj
      rw [hc]
      split
      · rename_i ha
        have h0 : cnt L j = 0 := by
          unfold cnt
          rw [List.countP_eq_zero]
          intro b hb hj2
          exact (apart_iff (hok a (List.mem_cons_self ..)) (hok b (List.mem_cons_of_mem _ hb))).1 (h1 b hb) j hj ⟨ha, hj2⟩
        omega
      · have := h2 j hj; omega
/-- How many rooms each sample is in. -/
def cntL (n : Nat) (L : List Ls) : List Int := (List.range n).map fun (j : Nat) => ((cnt L (j : Int) : Nat) : Int)
theorem cntL_len (n : Nat) (L : List Ls) : (cntL n L).length = n := by unfold cntL; simp
theorem cntL_at {n : Nat} {L : List Ls} {j : Nat} (hj : j < (cntL n L).length) : (cntL n L)[j] = ((cnt L (j : Int) : Nat) : Int) := by
  simp [cntL]
theorem isPool_counts {n : Nat} {L : List Ls} (h1 : n ≤ 256) (h2 : L.length ≤ 16) (h3 : oks n L = true) : isPoolP n L = decide (∀ j (hj : j < (cntL n L).length), (cntL n L)[j] ≤ 1) := by
  have hok : ∀ l ∈ L, okL n l := of_decide_eq_true h3
  unfold isPoolP
  rw [decide_eq_true h1, decide_eq_true h2, h3, Bool.true_and, Bool.true_and, Bool.true_and]
  apply decide_eq_decide.2
  rw [← counts_iff L hok]
  constructor
  · intro h j hj
    rw [cntL_at hj]
    rw [cntL_len] at hj
    have := h j hj
    omega
  · intro h j hj
    have hj' : j < (cntL n L).length := by rw [cntL_len]; exact hj
    have := h j hj'
    rw [cntL_at hj'] at this
    omega
/-- The counts of L, and of the lease l up to the sample j. -/
def cntP (n : Nat) (L : List Ls) (l : Ls) (j : Int) : List Int := (List.range n).map fun (t : Nat) => ((cnt L (t : Int) : Nat) : Int) + if (inR (t : Int) l && decide ((t : Int) < j)) = true then 1 else 0
theorem cntP_len (n : Nat) (L : List Ls) (l : Ls) (j : Int) : (cntP n L l j).length = n := by unfold cntP; simp
theorem cntP_at {n : Nat} {L : List Ls} {l : Ls} {j : Int} {t : Nat} (ht : t < (cntP n L l j).length) : (cntP n L l j)[t] = ((cnt L (t : Int) : Nat) : Int) + if (inR (t : Int) l && decide ((t : Int) < j)) = true then 1 else 0 := by
  simp [cntP]
theorem cnt_snoc (L : List Ls) (l : Ls) (j : Int) : cnt (L ++ [l]) j = cnt L j + if inR j l = true then 1 else 0 := by
  unfold cnt
  rw [List.countP_append, List.countP_singleton]
theorem cntP_start {n : Nat} {L : List Ls} {l : Ls} {j : Int} (h : j ≤ lsS l) : cntP n L l j = cntL n L := by
  unfold cntP cntL
  apply List.map_congr_left
  intro t _
  rw [if_neg, Int.add_zero]
  rw [Bool.and_eq_true, inR_iff, decide_eq_true_eq]
  omega
theorem cntP_end {n : Nat} {L : List Ls} {l : Ls} {j : Int} (h : lsS l + lsR l ≤ j) : cntP n L l j = cntL n (L ++ [l]) := by
  unfold cntP cntL
  apply List.map_congr_left
  intro t _
  rw [cnt_snoc]
  by_cases hin : inR (t : Int) l = true
  · have := (inR_iff _ _).1 hin
    rw [if_pos hin, if_pos (by rw [hin, Bool.true_and, decide_eq_true_eq]; omega)]
    omega
  · rw [if_neg hin, if_neg (by rw [Bool.and_eq_true]; exact fun g => hin g.1)]
    omega
theorem cntP_free {n : Nat} {L : List Ls} {l : Ls} (h : lsF l = true) : cntL n (L ++ [l]) = cntL n L := by
  unfold cntL
  apply List.map_congr_left
  intro t _
  rw [cnt_snoc, if_neg]
  · omega
  · rw [inR_iff, h]
    intro g
    cases g.1
theorem cntP_step {n : Nat} {L : List Ls} {l : Ls} {j : Nat} (hf : lsF l = false) (h1 : lsS l ≤ j) (h2 : (j : Int) < lsS l + lsR l) (hj : j < n) :
    (cntP n L l j).set j ((cntP n L l j)[j]'(by rw [cntP_len]; exact hj) + 1) = cntP n L l ((j : Int) + 1) := by
  apply List.ext_getElem
  · rw [List.length_set, cntP_len, cntP_len]
  · intro t ht1 ht2
    rw [List.getElem_set]
    split
    · rename_i e
      subst e
      rw [cntP_at, cntP_at, if_neg (by rw [Bool.and_eq_true, decide_eq_true_eq]; omega), if_pos (by rw [Bool.and_eq_true, inR_iff, decide_eq_true_eq]; exact ⟨⟨hf, h1, h2⟩, by omega⟩)]
      omega
    · rename_i hne
      rw [cntP_at, cntP_at]
      congr 2
      rw [Bool.and_eq_true, Bool.and_eq_true, decide_eq_true_eq, decide_eq_true_eq]
      apply propext
      constructor
      · intro g; exact ⟨g.1, by omega⟩
      · intro g; exact ⟨g.1, by omega⟩
theorem cntP_bd {n : Nat} {L : List Ls} {l : Ls} {j : Int} {t : Nat} (ht : t < (cntP n L l j).length) (hL : L.length ≤ 16) : 0 ≤ (cntP n L l j)[t] ∧ (cntP n L l j)[t] ≤ 17 := by
  rw [cntP_at]
  have : cnt L (t : Int) ≤ L.length := List.countP_le_length
  split <;> omega
end Go.Proofs.Ytmfgffgfggkgcaa
