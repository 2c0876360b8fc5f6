/-
  The walk of the law on NewPool: it returns true of every number.
-/
import Derived.Test.YtmfgffgfggkgcaaPool
namespace Go.Proofs.Ytmfgffgfggkgcaa
open Go.RowKit

def zeros (n : Nat) : List (Nat × Nat) := List.replicate n (0, 0)
/-- A slice of complex numbers of the call's own. -/
def Own (base : Nat) (w : World) (v : Value) (n : Nat) (xs : List Value) : Prop := w.ownsRow base 37 1 v n xs
def PoolOf (n : Int) (w : World) (e : Ending) (w' : World) : Prop :=
  ∃ v, e = .returned (.tuple #[pool v, .bool (inB n 0 256)]) ∧ Own w.heap.size w' v (if inB n 0 256 then n.toNat else 0) ((zeros (if inB n 0 256 then n.toNat else 0)).map cx) ∧ Below w.heap.size w w'
theorem poolOf {n : Int} {w w' : World} {e : Ending} (h : PoolAns n w e w') : PoolOf n w e w' := by
  rcases h with ⟨h0, h1, g, rfl, ho, hb⟩ | ⟨h, rfl, hb⟩
  · have hin : inB n 0 256 = true := by simp [inB]; omega
    exact ⟨_, by rw [hin], by rw [hin]; exact ho, hb⟩
  · have hin : inB n 0 256 = false := by simp [inB]; omega
    exact ⟨_, by rw [hin], by rw [hin]; exact ⟨rfl, .inl ⟨rfl, rfl⟩⟩, hb⟩
theorem newPool_i (n : Int) (w : World) : Calls Try.prog 6 #[.int .i64 n] w (PoolOf n w) := (newPool_impl n w).mono fun _ _ h => poolOf h
theorem newPool_s (n : Int) (w : World) : Calls Try.prog 5 #[.int .i64 n] w (PoolOf n w) := (newPool_spec n w).mono fun _ _ h => poolOf h
theorem len_le (n : Int) : (if inB n 0 256 then n.toNat else 0) ≤ 256 := by
  split
  · rename_i h; simp [inB] at h; omega
  · omega
theorem own_sl {base n : Nat} {w : World} {v : Value} {xs : List Value} (h : Own base w v n xs) : ∃ a cap, v = .slice a n cap ∧ SlAt w a n xs := by
  rcases h.2 with ⟨rfl, rfl⟩ | ⟨g, cap, cur, rfl, _⟩
  · exact ⟨none, 0, rfl, by simpa using h.1, .inl rfl⟩
  · exact ⟨some ⟨g, 0, none⟩, cap, rfl, by simpa using h.1, .inr ⟨g, 0, rfl, holds_of_owns h⟩⟩
theorem Own.below {base n : Nat} {w w' : World} {v : Value} {xs : List Value} (h : Own base w v n xs) (hb : Below w.heap.size w w') : Own base w' v n xs :=
  World.ownsRow.kept h (row := none) ⟨hb.os, hb.tape, hb.output, hb.size, fun k hk _ => hb.block k hk⟩ (by cases h : v.ownBlock with | none => exact .inl rfl | some g => exact .inr (by simp))
theorem Own.grown {base n : Nat} {w w' : World} {v u : Value} {xs : List Value} (h : Own base w v n xs) (hg : w.grownBy w' u.ownBlock) (hu : ∀ g, u.ownBlock = some g → g < base ∨ w.heap.size ≤ g) : Own base w' v n xs := by
  refine World.ownsRow.kept h hg ?_
  cases hv : v.ownBlock with
  | none => exact .inl rfl
  | some g =>
    right
    intro he
    have := World.ownsRow.lt h g hv
    rcases hu g he.symm with h | h <;> omega
theorem eqPool_own {b1 b2 n : Nat} {v1 v2 : Value} {w : World} (xs : List (Nat × Nat)) (hn : n ≤ 256) (h1 : Own b1 w v1 n (xs.map cx)) (h2 : Own b2 w v2 n (xs.map cx)) :
    Calls Try.prog 7 #[pool v1, pool v2] w fun e w' => e = .returned (.bool true) ∧ Below w.heap.size w w' := by
  obtain ⟨a1, c1, rfl, s1⟩ := own_sl h1
  obtain ⟨a2, c2, rfl, s2⟩ := own_sl h2
  exact eqPool_any _ _ _ _ _ _ _ (by omega) s1 s2
theorem markPool_own {base n : Nat} {v : Value} {w : World} (xs : List (Nat × Nat)) (hn : n ≤ 256) (h : Own base w v n (xs.map cx)) :
    Calls Try.prog 8 #[pool v, .int .i64 1] w fun e w' => e = .returned (.int .i64 ((1 + n : Nat) : Int)) ∧ Own base w' v n (marks 1 n) ∧ w.grownBy w' v.ownBlock := by
  rcases h.2 with ⟨rfl, rfl⟩ | ⟨g, cap, cur, rfl, _⟩
  · refine (markPool_none 1 w).mono ?_
    rintro e w' ⟨rfl, hb⟩
    exact ⟨rfl, ⟨rfl, .inl ⟨rfl, rfl⟩⟩, hb.os, hb.tape, hb.output, hb.size, fun k hk _ => hb.block k hk⟩
  · exact markPool_some base g n cap 1 xs w hn (by omega) h
theorem heldPool_own {base n : Nat} {v : Value} {w : World} (hn : n ≤ 256) (h : Own base w v n (marks 1 n)) :
    Calls Try.prog 9 #[pool v, .int .i64 1] w fun e w' => e = .returned (.int .i64 ((1 + n : Nat) : Int)) ∧ Below w.heap.size w w' := by
  have hlt := World.ownsRow.lt h
  rcases h.2 with ⟨rfl, rfl⟩ | ⟨g, cap, cur, rfl, _⟩
  · refine (heldPool_none 1 w).mono ?_
    rintro e w' ⟨rfl, hb⟩
    exact ⟨rfl, hb⟩
  · exact heldPool_some g n cap 1 w hn (by omega) (hlt g rfl).2 (holds_of_owns h)
/-- A variable that holds a pool without leases. -/
def PoolVar (w : World) (c : Nat) (v : Value) : Prop := w.cell? ⟨c, 0, none⟩ = some v ∧ w.cell? ⟨c, 1, none⟩ = some (.slice none 0 0)
theorem poolVar_new (w : World) (v : Value) : PoolVar (w.alloc (.cells #[v, .slice none 0 0] 25)) w.heap.size v :=
  ⟨by rw [World.cell?_alloc_new]; rfl, by rw [World.cell?_alloc_new]; rfl⟩
theorem PoolVar.below {w w' : World} {c : Nat} {v : Value} (h : PoolVar w c v) (hb : Below w.heap.size w w') : PoolVar w' c v := by
  have hc := cell_lt h.1
  exact ⟨by rw [hb.cell (p := ⟨c, 0, none⟩) hc]; exact h.1, by rw [hb.cell (p := ⟨c, 1, none⟩) hc]; exact h.2⟩
theorem PoolVar.grown {w w' : World} {c : Nat} {v u : Value} (h : PoolVar w c v) (hg : w.grownBy w' u.ownBlock) (hc : some c ≠ u.ownBlock) : PoolVar w' c v :=
  ⟨hg.cell h.1 hc, hg.cell h.2 hc⟩

/-- What the law goes on from, once both pools are made. -/
def St (w : World) (b0 b1 c3 c5 m : Nat) (v0 v1 : Value) (ys : List Value) (x : World) : Prop :=
  Below w.heap.size w x ∧ Own b0 x v0 m ((zeros m).map cx) ∧ PoolVar x c3 v0 ∧ PoolVar x c5 v1 ∧ Own b1 x v1 m ys
theorem St.below {w x x' : World} {b0 b1 c3 c5 m : Nat} {v0 v1 : Value} {ys : List Value} (h : St w b0 b1 c3 c5 m v0 v1 ys x) (hb : Below x.heap.size x x') : St w b0 b1 c3 c5 m v0 v1 ys x' :=
  ⟨h.1.trans (hb.mono h.1.size), h.2.1.below hb, h.2.2.1.below hb, h.2.2.2.1.below hb, h.2.2.2.2.below hb⟩
theorem St.grown {w x x' : World} {b0 b1 c3 c5 m : Nat} {v0 v1 : Value} {ys zs : List Value} (h : St w b0 b1 c3 c5 m v0 v1 ys x) (hg : x.grownBy x' v1.ownBlock) (ho : Own b1 x' v1 m zs)
    (hb : w.heap.size ≤ b1) (h0 : v0.ownBlock = none ∨ v0.ownBlock ≠ v1.ownBlock) (h3 : some c3 ≠ v1.ownBlock) (h5 : some c5 ≠ v1.ownBlock) : St w b0 b1 c3 c5 m v0 v1 zs x' :=
  ⟨h.1.grown hg h.1.size (fun j hj => Nat.le_trans hb (World.ownsRow.lt h.2.2.2.2 j hj).1), World.ownsRow.kept h.2.1 hg h0, h.2.2.1.grown hg h3, h.2.2.2.1.grown hg h5, ho⟩

set_option maxHeartbeats 2000000 in
theorem fnExactNewPool_walk (n : Int) (_wf : (Lit.int .i64 n).wf = true) (w : World) : Calls Try.prog 3 #[.int .i64 n] w fun e w' => e = .returned (.bool true) ∧ Below w.heap.size w w' := by
  have hm := len_le n
  generalize hmm : (if inB n 0 256 then n.toNat else 0) = m at hm
  generalize hin : inB n 0 256 = ok at hmm
  go_enter Try.func3, Try.ntmps3
  go_wp2_with fail
  refine (newPool_s n _).mono ?_
  rintro e w1 ⟨v0, rfl, ho0, hb1⟩
  rw [hin, hmm] at ho0
  rw [hin]
  obtain ⟨a0, c0, rfl, -⟩ := own_sl ho0
  have h3 := poolVar_new w1 (.slice a0 m c0)
  have HB1 := Lib.hid (show Below w.heap.size w (w1.alloc (.cells #[.slice a0 m c0, .slice none 0 0] 25)) from hb1.alloc hb1.size _)
  have HO0 := Lib.hid (ho0.below ((Below.refl _ _).alloc (Nat.le_refl _) (.cells #[.slice a0 m c0, .slice none 0 0] 25)))
  have H3 := Lib.hid h3
  clear ho0 h3 hb1
  unfold pool
  go_wp2_with fail
  generalize hww : w1.alloc (.cells #[.slice a0 m c0, .slice none 0 0] 25) = x1 at *
  clear hww
  generalize w1.heap.size = c3 at *
  refine (newPool_i n _).mono ?_
  rintro e w2 ⟨v1, rfl, ho1, hb2⟩
  rw [hin, hmm] at ho1
  rw [hin]
  obtain ⟨a1, c1, rfl, -⟩ := own_sl ho1
  have hbl : Below x1.heap.size x1 (w2.alloc (.cells #[.slice a1 m c1, .slice none 0 0] 25)) := hb2.alloc hb2.size _
  have hle : w.heap.size ≤ x1.heap.size := HB1.out.size
  have hst : St w w.heap.size x1.heap.size c3 w2.heap.size m (.slice a0 m c0) (.slice a1 m c1) ((zeros m).map cx) (w2.alloc (.cells #[.slice a1 m c1, .slice none 0 0] 25)) :=
    ⟨HB1.out.trans (hbl.mono hle), HO0.out.below hbl, H3.out.below hbl, poolVar_new _ _, ho1.below ((Below.refl _ _).alloc (Nat.le_refl _) _)⟩
  have d0 : (Value.slice a0 m c0).ownBlock = none ∨ (Value.slice a0 m c0).ownBlock ≠ (Value.slice a1 m c1).ownBlock := by
    cases h0 : (Value.slice a0 m c0).ownBlock with
    | none => exact .inl rfl
    | some g =>
      right
      intro he
      have e1 := (World.ownsRow.lt HO0.out g h0).2
      have e2 := (World.ownsRow.lt ho1 g he.symm).1
      omega
  have d3 : some c3 ≠ (Value.slice a1 m c1).ownBlock := fun he => by
    have e1 := cell_lt H3.out.1
    have e2 := (World.ownsRow.lt ho1 c3 he.symm).1
    omega
  have d5 : some w2.heap.size ≠ (Value.slice a1 m c1).ownBlock := fun he => by
    have e2 := (World.ownsRow.lt ho1 _ he.symm).2
    omega
  have D := Lib.hid (show _ ∧ _ ∧ _ ∧ _ from ⟨hle, d0, d3, d5⟩)
  have HS := Lib.hid hst
  have hp3 := hst.2.2.1.1
  have hp3' := hst.2.2.1.2
  clear hst hbl hle d0 d3 d5 ho1 hb2 HB1 HO0 H3
  unfold pool
  go_wp2_with fail
  generalize w2.alloc (.cells #[.slice a1 m c1, .slice none 0 0] 25) = x2 at *
  generalize w2.heap.size = c5 at *
  clear hp3 hp3'
  refine (eqPool_own (zeros m) hm HS.out.2.2.2.2 HS.out.2.1).mono ?_
  rintro e x3 ⟨rfl, hb3⟩
  have HS3 := Lib.hid (HS.out.below hb3)
  clear hb3 HS
  have g5 := HS3.out.2.2.2.1.1
  have g5' := HS3.out.2.2.2.1.2
  go_wp2_with fail
  clear g5 g5'
  refine (markPool_own (zeros m) hm HS3.out.2.2.2.2).mono ?_
  rintro e x4 ⟨rfl, ho4, hg4⟩
  have HS4 := Lib.hid (HS3.out.grown hg4 ho4 D.out.1 D.out.2.1 D.out.2.2.1 D.out.2.2.2)
  clear hg4 ho4 HS3 D
  have g5 := HS4.out.2.2.2.1.1
  have g5' := HS4.out.2.2.2.1.2
  go_wp2_with fail
  clear g5 g5'
  refine (heldPool_own hm HS4.out.2.2.2.2).mono ?_
  rintro e x5 ⟨rfl, hb5⟩
  have HS5 := Lib.hid (HS4.out.below hb5)
  clear hb5 HS4
  have hpos : ¬ ((1 + m : Nat) : Int) < 0 := by omega
  go_wp2_with fail
  refine (newPool_i n _).mono ?_
  rintro e x6 ⟨v2, rfl, ho6, hb6⟩
  rw [hin, hmm] at ho6
  rw [hin]
  obtain ⟨a2, c2, rfl, -⟩ := own_sl ho6
  have HS6 := Lib.hid ((HS5.out.below hb6).below ((Below.refl _ _).alloc (Nat.le_refl _) (.cells #[.slice a2 m c2, .slice none 0 0] 25)))
  have HO6 := Lib.hid (ho6.below ((Below.refl _ _).alloc (Nat.le_refl _) (.cells #[.slice a2 m c2, .slice none 0 0] 25)))
  clear ho6 hb6 HS5
  have g3 := HS6.out.2.2.1.1
  have g3' := HS6.out.2.2.1.2
  unfold pool
  go_wp2_with fail
  clear g3 g3'
  refine (eqPool_own (zeros m) hm HO6.out HS6.out.2.1).mono ?_
  rintro e x7 ⟨rfl, hb7⟩
  have HS7 := Lib.hid (HS6.out.below hb7)
  clear hb7 HS6 HO6
  have g5 := HS7.out.2.2.2.1.1
  have g5' := HS7.out.2.2.2.1.2
  go_wp2_with fail
  clear g5 g5'
  refine (heldPool_own hm HS7.out.2.2.2.2).mono ?_
  rintro e x8 ⟨rfl, hb8⟩
  have HS8 := Lib.hid (HS7.out.below hb8)
  clear hb8 HS7
  go_wp2_with fail
  go_ret
  exact ⟨rfl, HS8.out.1⟩
end Go.Proofs.Ytmfgffgfggkgcaa
