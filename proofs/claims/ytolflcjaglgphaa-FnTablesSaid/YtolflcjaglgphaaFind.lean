/-
  FindPoint of the program and of the reference.
-/
import Derived.Test.YtolflcjaglgphaaIsTab
namespace Go.Proofs.Ytolflcjaglgphaa
open Go.RowKit
def findOk (ps : List (Nat × Nat)) (ls : List Int) (z : Nat × Nat) : Bool := isTab ps ls.length && decide (0 ≤ idxI ps z)
def FindAns (ps : List (Nat × Nat)) (ls : List Int) (z : Nat × Nat) (w : World) (e : Ending) (w' : World) : Prop :=
  e = .returned (.tuple #[.int .i64 (if findOk ps ls z then ls.getD (idxI ps z).toNat 0 else 0), .bool (findOk ps ls z)]) ∧ Below w.heap.size w w'
theorem find_yes {ps : List (Nat × Nat)} {ls : List Int} {z : Nat × Nat} {j : Nat} {w w' : World} {e : Ending} (h1 : isTab ps ls.length = true) (hj : idxI ps z = (j : Int)) (he : e = .returned (.tuple #[.int .i64 (ls.getD j 0), .bool true])) (hb : Below w.heap.size w w') : FindAns ps ls z w e w' := by
  have h : findOk ps ls z = true := by unfold findOk; rw [h1, decide_eq_true (show 0 ≤ idxI ps z by omega)]; rfl
  refine ⟨?_, hb⟩
  rw [h, he, hj]; rfl
theorem find_no {ps : List (Nat × Nat)} {ls : List Int} {z : Nat × Nat} {w w' : World} {e : Ending} (h1 : isTab ps ls.length = false ∨ idxI ps z < 0) (he : e = .returned (.tuple #[.int .i64 0, .bool false])) (hb : Below w.heap.size w w') : FindAns ps ls z w e w' := by
  have h : findOk ps ls z = false := by
    unfold findOk
    rcases h1 with h | h
    · rw [h]; rfl
    · rw [decide_eq_false (show ¬ 0 ≤ idxI ps z by omega), Bool.and_false]
  refine ⟨?_, hb⟩
  rw [h, he]; rfl
theorem tabIn_cell {w : World} {b : Option Addr} {m j : Nat} {ls : List Int} (h : SlAt w b m (ls.map (Value.int .i64))) (hj : j < m) : ∃ g off, b = some ⟨g, off, none⟩ ∧ w.cell? ⟨g, off + j, none⟩ = some (.int .i64 (ls.getD j 0)) := by
  rcases h.2 with h0 | ⟨g, off, rfl, hh⟩
  · omega
  · have hl : ls.length = m := by simpa using h.1
    refine ⟨g, off, rfl, ?_⟩
    rw [hh j (by simp; omega), List.getElem?_map, List.getD_eq_getElem?_getD, List.getElem?_eq_getElem (by omega)]; rfl
set_option maxHeartbeats 2000000 in
theorem find_i (v0 v1 : Value) (ps : List (Nat × Nat)) (ls : List Int) (z : Nat × Nat) (w : World) (ht : TabIn w v0 v1 ps ls) :
    Calls Try.prog 18 #[.agg #[v0, v1], cx z] w (FindAns ps ls z w) := by
  have ht' := ht
  obtain ⟨a, n, ca, b, m, cb, rfl, rfl, hp, hq, hca, hca2, -, -, hn, hm, hwf⟩ := ht
  have hl : ps.length = n := by simpa using hp.1
  have hl2 : ls.length = m := by simpa using hq.1
  have hb : Below w.heap.size w (w.alloc (Obj.cells #[Value.slice a n ca, Value.slice b m cb] 25)) := (Below.refl _ _).alloc (Nat.le_refl _) _
  have HP := Lib.hid (show _ ∧ _ ∧ _ ∧ _ from ⟨hp.below hb, hq.below hb, hb, ht'.below hb⟩)
  clear hp hq hb hwf ht'
  go_enter Try.func18, Try.ntmps18
  go_wp2_with fail
  have hc0 : (w.alloc (Obj.cells #[Value.slice a n ca, Value.slice b m cb] 25)).cell? ⟨w.heap.size, 0, none⟩ = some (.slice a n ca) := by rw [World.cell?_alloc_new]; rfl
  have hc1 : (w.alloc (Obj.cells #[Value.slice a n ca, Value.slice b m cb] 25)).cell? ⟨w.heap.size, 1, none⟩ = some (.slice b m cb) := by rw [World.cell?_alloc_new]; rfl
  have hlw : w.heap.size < (w.alloc (Obj.cells #[Value.slice a n ca, Value.slice b m cb] 25)).heap.size := by simp
  generalize w.alloc (Obj.cells #[Value.slice a n ca, Value.slice b m cb] 25) = x at *
  refine (isTable_i _ _ ps ls _ HP.out.2.2.2).mono ?_
  rintro e y ⟨rfl, hby⟩
  have c0 : y.cell? ⟨w.heap.size, 0, none⟩ = some (.slice a n ca) := by rw [hby.cell (p := ⟨w.heap.size, 0, none⟩) hlw]; exact hc0
  have c1 : y.cell? ⟨w.heap.size, 1, none⟩ = some (.slice b m cb) := by rw [hby.cell (p := ⟨w.heap.size, 1, none⟩) hlw]; exact hc1
  have hly : w.heap.size < y.heap.size := Nat.lt_of_lt_of_le hlw hby.size
  have HY := Lib.hid (show _ ∧ _ ∧ _ from ⟨HP.out.1.below hby, HP.out.2.1.below hby, HP.out.2.2.1.trans (hby.mono HP.out.2.2.1.size)⟩)
  clear hby HP hc0 hc1
  cases hok : isTab ps ls.length with
  | false =>
    go_wp2_with fail
    go_ret2
    exact find_no (.inl hok) rfl HY.out.2.2
  | true =>
    obtain rfl : n = m := by have := of_decide_eq_true hok; omega
    go_wp2_with fail
    refine (place_any a n ca ps z _ hn HY.out.1).mono ?_
    rintro e u ⟨rfl, hbu⟩
    have d1 : u.cell? ⟨w.heap.size, 1, none⟩ = some (.slice b n cb) := by rw [hbu.cell (p := ⟨w.heap.size, 1, none⟩) hly]; exact c1
    have HU := Lib.hid (show _ ∧ _ from ⟨HY.out.2.1.below hbu, HY.out.2.2.trans (hbu.mono HY.out.2.2.size)⟩)
    clear hbu c0 c1 HY
    by_cases hi : idxI ps z < 0
    · go_wp2_with fail
      go_ret2
      exact find_no (.inr hi) rfl HU.out.2
    · have hbd := idx_bd ps z
      obtain ⟨j, hj⟩ : ∃ j : Nat, idxI ps z = j := ⟨(idxI ps z).toNat, by omega⟩
      have HJ := Lib.hid hj
      rw [hj]
      rw [hj] at hbd hi
      have hjn : (j : Int) < (n : Int) := by omega
      obtain ⟨g, off, rfl, hcx⟩ := tabIn_cell (j := j) HU.out.1 (by omega)
      clear hbd hj
      go_wp2_with fail
      go_ret2
      exact find_yes hok HJ.out rfl HU.out.2
set_option maxHeartbeats 2000000 in
theorem find_s (v0 v1 : Value) (ps : List (Nat × Nat)) (ls : List Int) (z : Nat × Nat) (w : World) (ht : TabIn w v0 v1 ps ls) :
    Calls Try.prog 31 #[.agg #[v0, v1], cx z] w (FindAns ps ls z w) := by
  have ht' := ht
  obtain ⟨a, n, ca, b, m, cb, rfl, rfl, hp, hq, hca, hca2, -, -, hn, hm, hwf⟩ := ht
  have hl : ps.length = n := by simpa using hp.1
  have hl2 : ls.length = m := by simpa using hq.1
  have hb : Below w.heap.size w (w.alloc (Obj.cells #[Value.slice a n ca, Value.slice b m cb] 25)) := (Below.refl _ _).alloc (Nat.le_refl _) _
  have HP := Lib.hid (show _ ∧ _ ∧ _ ∧ _ from ⟨hp.below hb, hq.below hb, hb, ht'.below hb⟩)
  clear hp hq hb hwf ht'
  go_enter Try.func31, Try.ntmps31
  go_wp2_with fail
  have hc0 : (w.alloc (Obj.cells #[Value.slice a n ca, Value.slice b m cb] 25)).cell? ⟨w.heap.size, 0, none⟩ = some (.slice a n ca) := by rw [World.cell?_alloc_new]; rfl
  have hc1 : (w.alloc (Obj.cells #[Value.slice a n ca, Value.slice b m cb] 25)).cell? ⟨w.heap.size, 1, none⟩ = some (.slice b m cb) := by rw [World.cell?_alloc_new]; rfl
  have hlw : w.heap.size < (w.alloc (Obj.cells #[Value.slice a n ca, Value.slice b m cb] 25)).heap.size := by simp
  generalize w.alloc (Obj.cells #[Value.slice a n ca, Value.slice b m cb] 25) = x at *
  refine (l2At_any _ a n ca ps z _ hn HP.out.1 b m cb rfl).mono ?_
  rintro e y ⟨rfl, hby⟩
  have c0 : y.cell? ⟨w.heap.size, 0, none⟩ = some (.slice a n ca) := by rw [hby.cell (p := ⟨w.heap.size, 0, none⟩) hlw]; exact hc0
  have c1 : y.cell? ⟨w.heap.size, 1, none⟩ = some (.slice b m cb) := by rw [hby.cell (p := ⟨w.heap.size, 1, none⟩) hlw]; exact hc1
  have hly : w.heap.size < y.heap.size := Nat.lt_of_lt_of_le hlw hby.size
  have HY := Lib.hid (show _ ∧ _ ∧ _ from ⟨HP.out.2.1.below hby, HP.out.2.2.1.trans (hby.mono HP.out.2.2.1.size), HP.out.2.2.2.below hby⟩)
  clear hby HP hc0 hc1
  by_cases hi : idxI ps z < 0
  · go_wp2_with fail
    go_ret2
    exact find_no (.inr hi) rfl HY.out.2.1
  · go_wp2_with fail
    refine (isTable_s _ _ ps ls _ HY.out.2.2).mono ?_
    rintro e u ⟨rfl, hbu⟩
    have d1 : u.cell? ⟨w.heap.size, 1, none⟩ = some (.slice b m cb) := by rw [hbu.cell (p := ⟨w.heap.size, 1, none⟩) hly]; exact c1
    have HU := Lib.hid (show _ ∧ _ from ⟨HY.out.1.below hbu, HY.out.2.1.trans (hbu.mono HY.out.2.1.size)⟩)
    clear hbu c0 c1 HY
    cases hok : isTab ps ls.length with
    | false =>
      go_wp2_with fail
      go_ret2
      exact find_no (.inl hok) rfl HU.out.2
    | true =>
      obtain rfl : n = m := by have := of_decide_eq_true hok; omega
      have hbd := idx_bd ps z
      obtain ⟨j, hj⟩ : ∃ j : Nat, idxI ps z = j := ⟨(idxI ps z).toNat, by omega⟩
      have HJ := Lib.hid hj
      rw [hj]
      rw [hj] at hbd hi
      have hjn : (j : Int) < (n : Int) := by omega
      obtain ⟨g, off, rfl, hcx⟩ := tabIn_cell (j := j) HU.out.1 (by omega)
      clear hbd hj
      go_wp2_with fail
      go_ret2
      exact find_yes hok HJ.out rfl HU.out.2
end Go.Proofs.Ytolflcjaglgphaa
