/-
  The walk of the law on GridTable: it returns true of every number.
-/
import Derived.Test.YtolflcjaglgphaaTab
namespace Go.Proofs.Ytolflcjaglgphaa
open Go.RowKit

def gridOk (n : Int) : Bool := decide (1 ≤ n ∧ n ≤ 8)
def gN (n : Int) : Nat := if gridOk n then n.toNat * n.toNat else 0
def gP (n : Int) : List (Nat × Nat) := if gridOk n then grid (gp n.toNat) n.toNat n.toNat 0 else []
def gL (n : Int) : List Value := if gridOk n then grid (gl n.toNat) n.toNat n.toNat 0 else []
theorem gN_le (n : Int) : gN n ≤ 256 := by
  unfold gN
  split
  · rename_i h
    simp only [gridOk, decide_eq_true_eq] at h
    have : n.toNat * n.toNat ≤ 8 * 8 := Nat.mul_le_mul (by omega) (by omega)
    omega
  · omega
theorem gL_ints (n : Int) : AllInts (gL n) := by
  intro x hx
  unfold gL at hx
  split at hx
  · unfold grid at hx
    simp only [List.range_zero, List.map_nil, List.append_nil, List.mem_flatMap, List.mem_map] at hx
    obtain ⟨_, _, _, _, rfl⟩ := hx
    exact ⟨_, rfl⟩
  · cases hx
def TableOf (n : Int) (w : World) (e : Ending) (w' : World) : Prop :=
  ∃ v0 v1, e = .returned (.tuple #[.agg #[v0, v1], .bool (gridOk n)]) ∧ OwnC w.heap.size w' v0 (gN n) ((gP n).map cx) ∧ OwnI w.heap.size w' v1 (gN n) (gL n) ∧ Below w.heap.size w w'
theorem tableOf {n : Int} {w w' : World} {e : Ending} (h : TabAns n w e w') : TableOf n w e w' := by
  rcases h with ⟨h0, h1, v0, v1, rfl, o0, o1, hb⟩ | ⟨h, rfl, hb⟩
  · have hin : gridOk n = true := by simp [gridOk]; omega
    exact ⟨v0, v1, by rw [hin], by unfold gN gP; rw [if_pos hin, if_pos hin]; exact o0, by unfold gN gL; rw [if_pos hin, if_pos hin]; exact o1, hb⟩
  · have hin : gridOk n = false := by simp [gridOk]; omega
    exact ⟨_, _, by rw [hin], by unfold gN gP; rw [hin]; exact ⟨rfl, .inl ⟨rfl, rfl⟩⟩, by unfold gN gL; rw [hin]; exact ⟨rfl, .inl ⟨rfl, rfl⟩⟩, hb⟩
theorem grid_i (n : Int) (w : World) : Calls Try.prog 8 #[.int .i64 n] w (TableOf n w) := (grid_impl n w).mono fun _ _ h => tableOf h
theorem grid_s (n : Int) (w : World) : Calls Try.prog 7 #[.int .i64 n] w (TableOf n w) := (grid_spec n w).mono fun _ _ h => tableOf h
/-- A variable that holds a table. -/
def TabVar (w : World) (c : Nat) (v0 v1 : Value) : Prop := w.cell? ⟨c, 0, none⟩ = some v0 ∧ w.cell? ⟨c, 1, none⟩ = some v1
theorem tabVar_new (w : World) (v0 v1 : Value) : TabVar (w.alloc (.cells #[v0, v1] 25)) w.heap.size v0 v1 :=
  ⟨by rw [World.cell?_alloc_new]; rfl, by rw [World.cell?_alloc_new]; rfl⟩
theorem TabVar.below {w w' : World} {c : Nat} {v0 v1 : Value} (h : TabVar w c v0 v1) (hb : Below w.heap.size w w') : TabVar w' c v0 v1 := by
  have hc := cell_lt h.1
  exact ⟨by rw [hb.cell (p := ⟨c, 0, none⟩) hc]; exact h.1, by rw [hb.cell (p := ⟨c, 1, none⟩) hc]; exact h.2⟩
theorem TabVar.g2 {w w' : World} {c : Nat} {v0 v1 : Value} {a b : Option Nat} (h : TabVar w c v0 v1) (hg : G2 a b w w') (ha : some c ≠ a) (hb : some c ≠ b) : TabVar w' c v0 v1 := by
  have hc := cell_lt h.1
  exact ⟨by rw [World.cell?_of_block (w := w) (hg.block c hc ha hb)]; exact h.1, by rw [World.cell?_of_block (w := w) (hg.block c hc ha hb)]; exact h.2⟩
theorem own_g2 {w w' : World} {base e n : Nat} {v : Value} {xs : List Value} {a b : Option Nat} (h : w.ownsRow base e 1 v n xs) (hg : G2 a b w w') (ha : v.ownBlock = none ∨ v.ownBlock ≠ a) (hb : v.ownBlock = none ∨ v.ownBlock ≠ b) : w'.ownsRow base e 1 v n xs := by
  refine ⟨h.1, ?_⟩
  rcases h.2 with hn | ⟨g, cap, cur, rfl, h2, hgg, rest⟩
  · exact .inl hn
  · refine .inr ⟨g, cap, cur, rfl, h2, ?_, rest⟩
    rw [hg.block g (Array.getElem?_eq_some_iff.1 hgg).1 (by simpa [Value.ownBlock] using ha) (by simpa [Value.ownBlock] using hb)]
    exact hgg
/-- What the law goes on from, once both tables are made. -/
def St (w : World) (b0 b1 c3 c5 n : Nat) (ps : List (Nat × Nat)) (ls : List Value) (v0 v1 u0 u1 : Value) (ys zs : List Value) (x : World) : Prop :=
  Below w.heap.size w x ∧ OwnC b0 x v0 n (ps.map cx) ∧ OwnI b0 x v1 n ls ∧ TabVar x c3 v0 v1 ∧ TabVar x c5 u0 u1 ∧ OwnC b1 x u0 n ys ∧ OwnI b1 x u1 n zs
theorem St.below {w x x' : World} {b0 b1 c3 c5 n : Nat} {ps : List (Nat × Nat)} {ls : List Value} {v0 v1 u0 u1 : Value} {ys zs : List Value} (h : St w b0 b1 c3 c5 n ps ls v0 v1 u0 u1 ys zs x) (hb : Below x.heap.size x x') : St w b0 b1 c3 c5 n ps ls v0 v1 u0 u1 ys zs x' :=
  ⟨h.1.trans (hb.mono h.1.size), own_below h.2.1 hb, own_below h.2.2.1 hb, h.2.2.2.1.below hb, h.2.2.2.2.1.below hb, own_below h.2.2.2.2.2.1 hb, own_below h.2.2.2.2.2.2 hb⟩
def Apart (v u : Value) : Prop := v.ownBlock = none ∨ v.ownBlock ≠ u.ownBlock
theorem St.marked {w x x' : World} {b0 b1 c3 c5 n : Nat} {ps : List (Nat × Nat)} {ls : List Value} {v0 v1 u0 u1 : Value} {ys zs ys' zs' : List Value} (h : St w b0 b1 c3 c5 n ps ls v0 v1 u0 u1 ys zs x) (hg : G2 u0.ownBlock u1.ownBlock x x')
    (ho : OwnC b1 x' u0 n ys') (ho' : OwnI b1 x' u1 n zs') (hb : w.heap.size ≤ b1) (d0 : Apart v0 u0) (d1 : Apart v1 u1)
    (h3 : some c3 ≠ u0.ownBlock) (h3' : some c3 ≠ u1.ownBlock) (h5 : some c5 ≠ u0.ownBlock) (h5' : some c5 ≠ u1.ownBlock) : St w b0 b1 c3 c5 n ps ls v0 v1 u0 u1 ys' zs' x' := by
  refine ⟨?_, own_g2 h.2.1 hg d0 (own_apart h.2.1 h.2.2.2.2.2.2 (by decide)), own_g2 h.2.2.1 hg (own_apart h.2.2.1 h.2.2.2.2.2.1 (by decide)) d1, h.2.2.2.1.g2 hg h3 h3', h.2.2.2.2.1.g2 hg h5 h5', ho, ho'⟩
  have hs := h.1.size
  exact ⟨hg.os.trans h.1.os, hg.tape.trans h.1.tape, hg.output.trans h.1.output, Nat.le_trans hs hg.size, fun k hk =>
    (hg.block k (by omega) (fun he => by have := (World.ownsRow.lt h.2.2.2.2.2.1 k he.symm).1; omega) (fun he => by have := (World.ownsRow.lt h.2.2.2.2.2.2 k he.symm).1; omega)).trans (h.1.block k hk)⟩
theorem apart_of {w1 w2 : World} {b b' e n n' : Nat} {v u : Value} {xs ys : List Value} (h : w1.ownsRow b e 1 v n xs) (g : w2.ownsRow b' e 1 u n' ys) (hb : w1.heap.size ≤ b') : Apart v u := by
  cases h0 : v.ownBlock with
  | none => exact .inl h0
  | some k =>
    right
    rw [h0]
    intro he
    have e1 := (h.lt k h0).2
    have e2 := (g.lt k he.symm).1
    omega

set_option maxHeartbeats 2000000 in
theorem fnExactGridTable_walk (n : Int) (_wf : (Lit.int .i64 n).wf = true) (w : World) : Calls Try.prog 3 #[.int .i64 n] w fun e w' => e = .returned (.bool true) ∧ Below w.heap.size w w' := by
  have hm := gN_le n
  have HI := Lib.hid (gL_ints n)
  have HGS := Lib.hid (grid_s n)
  have HGI := Lib.hid (grid_i n)
  unfold TableOf at HGS HGI
  generalize gN n = m at *
  generalize gP n = ps at *
  generalize gL n = ls at *
  generalize gridOk n = ok at *
  go_enter Try.func3, Try.ntmps3
  go_wp2_with fail
  refine (HGS.out _).mono ?_
  rintro e w1 ⟨v0, v1, rfl, o0, o1, hb1⟩
  obtain ⟨a0, c0, rfl⟩ := owns_form o0
  obtain ⟨a1, c1, rfl⟩ := owns_form o1
  have hal : Below w1.heap.size w1 (w1.alloc (.cells #[.slice a0 m c0, .slice a1 m c1] 25)) := (Below.refl _ _).alloc (Nat.le_refl _) _
  have HB1 := Lib.hid (show Below w.heap.size w (w1.alloc (.cells #[.slice a0 m c0, .slice a1 m c1] 25)) from hb1.alloc hb1.size _)
  have HO := Lib.hid (show _ ∧ _ ∧ _ from ⟨own_below o0 hal, own_below o1 hal, tabVar_new w1 (.slice a0 m c0) (.slice a1 m c1)⟩)
  clear o0 o1 hb1 hal
  go_wp2_with fail
  generalize hww : w1.alloc (.cells #[.slice a0 m c0, .slice a1 m c1] 25) = x1 at *
  clear hww
  generalize w1.heap.size = c3 at *
  refine (HGI.out _).mono ?_
  rintro e w2 ⟨u0, u1, rfl, q0, q1, hb2⟩
  obtain ⟨a2, c2, rfl⟩ := owns_form q0
  obtain ⟨a4, c4, rfl⟩ := owns_form q1
  have hbl : Below x1.heap.size x1 (w2.alloc (.cells #[.slice a2 m c2, .slice a4 m c4] 25)) := hb2.alloc hb2.size _
  have hal : Below w2.heap.size w2 (w2.alloc (.cells #[.slice a2 m c2, .slice a4 m c4] 25)) := (Below.refl _ _).alloc (Nat.le_refl _) _
  have hle : w.heap.size ≤ x1.heap.size := HB1.out.size
  have hst : St w w.heap.size x1.heap.size c3 w2.heap.size m ps ls (.slice a0 m c0) (.slice a1 m c1) (.slice a2 m c2) (.slice a4 m c4) (ps.map cx) ls (w2.alloc (.cells #[.slice a2 m c2, .slice a4 m c4] 25)) :=
    ⟨HB1.out.trans (hbl.mono hle), own_below HO.out.1 hbl, own_below HO.out.2.1 hbl, HO.out.2.2.below hbl, tabVar_new _ _ _, own_below q0 hal, own_below q1 hal⟩
  have hc3 := cell_lt HO.out.2.2.1
  have D := Lib.hid (show _ ∧ _ ∧ _ ∧ _ ∧ _ ∧ _ ∧ _ from ⟨hle, apart_of HO.out.1 q0 (Nat.le_refl _), apart_of HO.out.2.1 q1 (Nat.le_refl _),
    (show some c3 ≠ (Value.slice a2 m c2).ownBlock from fun he => by have := (World.ownsRow.lt q0 c3 he.symm).1; omega),
    (show some c3 ≠ (Value.slice a4 m c4).ownBlock from fun he => by have := (World.ownsRow.lt q1 c3 he.symm).1; omega),
    (show some w2.heap.size ≠ (Value.slice a2 m c2).ownBlock from fun he => by have := (World.ownsRow.lt q0 _ he.symm).2; omega),
    (show some w2.heap.size ≠ (Value.slice a4 m c4).ownBlock from fun he => by have := (World.ownsRow.lt q1 _ he.symm).2; omega)⟩)
  have HS := Lib.hid hst
  have hp3 := hst.2.2.2.1.1
  have hp3' := hst.2.2.2.1.2
  clear hst hbl hal hle hc3 q0 q1 hb2 HB1 HO
  go_wp2_with fail
  generalize w2.alloc (.cells #[.slice a2 m c2, .slice a4 m c4] 25) = x2 at *
  generalize w2.heap.size = c5 at *
  clear hp3 hp3'
  refine (eqTable_own ps ls hm HI.out HS.out.2.2.2.2.2.1 HS.out.2.2.2.2.2.2 HS.out.2.1 HS.out.2.2.1).mono ?_
  rintro e x3 ⟨rfl, hb3⟩
  have HS3 := Lib.hid (HS.out.below hb3)
  clear hb3 HS
  have g5 := HS3.out.2.2.2.2.1.1
  have g5' := HS3.out.2.2.2.2.1.2
  go_wp2_with fail
  clear g5 g5'
  refine (markTable_own ps ls hm HI.out HS3.out.2.2.2.2.2.1 HS3.out.2.2.2.2.2.2).mono ?_
  rintro e x4 ⟨rfl, ho4, ho4', hg4⟩
  have HS4 := Lib.hid (HS3.out.marked hg4 ho4 ho4' D.out.1 D.out.2.1 D.out.2.2.1 D.out.2.2.2.1 D.out.2.2.2.2.1 D.out.2.2.2.2.2.1 D.out.2.2.2.2.2.2)
  clear hg4 ho4 ho4' HS3 D
  have g5 := HS4.out.2.2.2.2.1.1
  have g5' := HS4.out.2.2.2.2.1.2
  go_wp2_with fail
  clear g5 g5'
  refine (heldTable_own hm HS4.out.2.2.2.2.2.1 HS4.out.2.2.2.2.2.2).mono ?_
  rintro e x5 ⟨rfl, hb5⟩
  have HS5 := Lib.hid (HS4.out.below hb5)
  clear hb5 HS4
  have hpos : ¬ ((1 + m + m : Nat) : Int) < 0 := by omega
  go_wp2_with fail
  refine (HGI.out _).mono ?_
  rintro e x6 ⟨t0, t1, rfl, r0, r1, hb6⟩
  obtain ⟨a5, c6, rfl⟩ := owns_form r0
  obtain ⟨a7, c7, rfl⟩ := owns_form r1
  have hal : Below x6.heap.size x6 (x6.alloc (.cells #[.slice a5 m c6, .slice a7 m c7] 25)) := (Below.refl _ _).alloc (Nat.le_refl _) _
  have HS6 := Lib.hid ((HS5.out.below hb6).below hal)
  have HO6 := Lib.hid (show _ ∧ _ from ⟨own_below r0 hal, own_below r1 hal⟩)
  clear r0 r1 hb6 HS5 hal
  have g3 := HS6.out.2.2.2.1.1
  have g3' := HS6.out.2.2.2.1.2
  go_wp2_with fail
  clear g3 g3'
  refine (eqTable_own ps ls hm HI.out HO6.out.1 HO6.out.2 HS6.out.2.1 HS6.out.2.2.1).mono ?_
  rintro e x7 ⟨rfl, hb7⟩
  have HS7 := Lib.hid (HS6.out.below hb7)
  clear hb7 HS6 HO6
  have g5 := HS7.out.2.2.2.2.1.1
  have g5' := HS7.out.2.2.2.2.1.2
  go_wp2_with fail
  clear g5 g5'
  refine (heldTable_own hm HS7.out.2.2.2.2.2.1 HS7.out.2.2.2.2.2.2).mono ?_
  rintro e x8 ⟨rfl, hb8⟩
  have HS8 := Lib.hid (HS7.out.below hb8)
  clear hb8 HS7
  go_wp2_with fail
  go_ret
  exact ⟨rfl, HS8.out.1⟩
end Go.Proofs.Ytolflcjaglgphaa
