/-
  What is told of labels of a grid: encoded, decided, turned. Plain. No program in sight.
-/
import Derived.Test.YtolflcjaglgphaaDecP
import Derived.Test.YtolflcjaglgphaaEnc
namespace Go.Proofs.Ytolflcjaglgphaa
open Go Go.RowKit
theorem getD_at {α : Type} {xs : List α} {k : Nat} {d : α} (h : k < xs.length) : xs.getD k d = xs[k] := by rw [List.getD_eq_getElem?_getD, List.getElem?_eq_getElem h]; rfl
def nat2 (ms : List Nat) : List Int := ms.map (Int.ofNat ·)
theorem nat2_at {ms : List Nat} {k : Nat} (h : k < (nat2 ms).length) : (nat2 ms)[k] = ((ms[k]'(by simpa [nat2] using h) : Nat) : Int) := by
  have h2 := List.getElem?_eq_getElem h
  have hk : k < ms.length := by simpa [nat2] using h
  have h3 : (nat2 ms)[k]? = some ((ms[k] : Nat) : Int) := by
    unfold nat2
    rw [List.getElem?_map, List.getElem?_eq_getElem hk]; rfl
  exact Option.some.inj (h2.symm.trans h3)
theorem nat2_snoc (ms : List Nat) (m : Nat) : ints (nat2 (ms ++ [m])) = ints (nat2 ms) ++ [Value.int .i64 (m : Int)] := by unfold nat2 ints; simp
/-- The points at places. -/
def pk (xs : List (Nat × Nat)) (ms : List Nat) : List (Nat × Nat) := ms.map fun m => xs.getD m (0, 0)
theorem pk_len (xs : List (Nat × Nat)) (ms : List Nat) : (pk xs ms).length = ms.length := by simp [pk]
theorem pk_snoc (xs : List (Nat × Nat)) {ms : List Nat} {k : Nat} (hk : k < ms.length) : (pk xs (ms.take (k + 1))).map cx = (pk xs (ms.take k)).map cx ++ [cx (xs.getD ms[k] (0, 0))] := by
  unfold pk
  rw [take_snoc _ hk, List.map_append]; rfl
theorem pk_at (xs : List (Nat × Nat)) {ms : List Nat} {k : Nat} (hk : k < ms.length) : ((pk xs ms).map cx)[k]? = some (cx (xs.getD ms[k] (0, 0))) := by
  unfold pk
  rw [List.getElem?_map, List.getElem?_map, List.getElem?_eq_getElem hk]; rfl
/-- What is told of labels below p. -/
structure Tells (s p : Nat) (ms : List Nat) : Prop where
  enc : ∀ i (hi : i < (nat2 ms).length), 0 ≤ idxL (lbs s) (nat2 ms)[i]
  encEq : encP (gps s) (lbs s) (nat2 ms) = pk (gps s) ms
  dec : ∀ i (hi : i < (pk (gps s) ms).length), 0 ≤ nearI (gps s) (pk (gps s) ms)[i]
  decEq : decP (gps s) (lbs s) (pk (gps s) ms) = nat2 ms
  mul : ∀ i (hi : i < ms.length), mulP ((gps s).getD ms[i] (0, 0)) (0, 1065353216) = some ((gts s).getD ms[i] (0, 0))
  dec2 : ∀ i (hi : i < (pk (gts s) ms).length), 0 ≤ nearI (gts s) (pk (gts s) ms)[i]
  dec2Eq : decP (gts s) (lbs s) (pk (gts s) ms) = nat2 ms
  dec3 : ∀ i (hi : i < (pk (gts s) ms).length), 0 ≤ nearI (gps s) (pk (gts s) ms)[i]
  dec3Eq : ∀ i (hi : i < ms.length), ∃ j, ∃ hj : j < (gps s).length, (decP (gps s) (lbs s) (pk (gts s) ms))[i]? = some (j : Int) ∧ ceq (gps s)[j] ((gts s).getD ms[i] (0, 0)) = true
theorem tells {s p : Nat} (h1 : 1 ≤ s) (h8 : s ≤ 8) (hp : s * s = p) (ms : List Nat) (hm : ∀ m ∈ ms, m < p) : Tells s p ms := by
  subst hp
  have gl := gps_len s
  have tl := gts_len s
  have ll := lbs_len s
  refine ⟨?_, ?_, ?_, ?_, ?_, ?_, ?_, ?_, ?_⟩
  · intro i hi
    rw [nat2_at hi, idx_lbs (hm _ (List.getElem_mem _))]; omega
  · unfold encP nat2 pk
    rw [List.map_map]
    refine List.map_congr_left fun m h => ?_
    show (gps s).getD (idxL (lbs s) ((m : Nat) : Int)).toNat (0, 0) = _
    rw [idx_lbs (hm m h)]; rfl
  · intro i hi
    unfold pk at hi
    simp only [pk]
    rw [List.getElem_map]
    have := hm _ (List.getElem_mem (by simpa using hi : i < ms.length))
    rw [getD_at (by omega), near_gps h1 h8 (by omega)]; omega
  · unfold decP nat2 pk
    rw [List.map_map]
    refine List.map_congr_left fun m h => ?_
    have := hm m h
    show (lbs s).getD (nearI (gps s) ((gps s).getD m (0, 0))).toNat 0 = ((m : Nat) : Int)
    rw [getD_at (by omega : m < (gps s).length), near_gps h1 h8 (by omega), Int.toNat_natCast, getD_at (by omega), lbs_at]
  · intro i hi
    have := hm _ (List.getElem_mem hi)
    rw [getD_at (by omega), getD_at (by omega)]
    exact (gts_some h1 h8 (by omega)).1
  · intro i hi
    unfold pk at hi
    simp only [pk]
    rw [List.getElem_map]
    have := hm _ (List.getElem_mem (by simpa using hi : i < ms.length))
    rw [getD_at (by omega), near_gts h1 h8 (by omega)]; omega
  · unfold decP nat2 pk
    rw [List.map_map]
    refine List.map_congr_left fun m h => ?_
    have := hm m h
    show (lbs s).getD (nearI (gts s) ((gts s).getD m (0, 0))).toNat 0 = ((m : Nat) : Int)
    rw [getD_at (by omega : m < (gts s).length), near_gts h1 h8 (by omega), Int.toNat_natCast, getD_at (by omega), lbs_at]
  · intro i hi
    unfold pk at hi
    simp only [pk]
    rw [List.getElem_map]
    have := hm _ (List.getElem_mem (by simpa using hi : i < ms.length))
    rw [getD_at (by omega)]
    obtain ⟨j, hj, h, _⟩ := near_mix h1 h8 (by omega : ms[i]'(by simpa using hi) < (gts s).length)
    rw [h]; omega
  · intro i hi
    have := hm _ (List.getElem_mem hi)
    obtain ⟨j, hj, h, hc⟩ := near_mix h1 h8 (by omega : ms[i] < (gts s).length)
    refine ⟨j, hj, ?_, by rw [getD_at (by omega)]; exact hc⟩
    unfold decP pk
    rw [List.map_map, List.getElem?_map, List.getElem?_eq_getElem hi]
    show some ((lbs s).getD (nearI (gps s) ((gts s).getD ms[i] (0, 0))).toNat 0) = _
    rw [getD_at (by omega : ms[i] < (gts s).length), h, Int.toNat_natCast, getD_at (by omega), lbs_at]
end Go.Proofs.Ytolflcjaglgphaa
