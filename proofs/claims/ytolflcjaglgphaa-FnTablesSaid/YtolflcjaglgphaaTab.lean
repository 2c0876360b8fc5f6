/-
  laws.eqTable, markTable, heldTable at tables of the call's own.
-/
import Derived.Test.YtolflcjaglgphaaGrid
import Derived.Test.YtolflcjaglgphaaInts
namespace Go.Proofs.Ytolflcjaglgphaa
open Go.RowKit

def OwnC (base : Nat) (w : World) (v : Value) (n : Nat) (xs : List Value) : Prop := w.ownsRow base 33 1 v n xs
def OwnI (base : Nat) (w : World) (v : Value) (n : Nat) (xs : List Value) : Prop := w.ownsRow base 3 1 v n xs
theorem own_slat {base e n : Nat} {w : World} {v : Value} {xs : List Value} (h : w.ownsRow base e 1 v n xs) : ∃ a cap, v = .slice a n cap ∧ SlAt w a n xs := by
  rcases h.2 with ⟨rfl, rfl⟩ | ⟨g, cap, cur, rfl, _⟩
  · exact ⟨none, 0, rfl, by simpa using h.1, .inl rfl⟩
  · exact ⟨some ⟨g, 0, none⟩, cap, rfl, by simpa using h.1, .inr ⟨g, 0, rfl, holds_of_owns h⟩⟩
theorem own_below {base e n : Nat} {w w' : World} {v : Value} {xs : List Value} (h : w.ownsRow base e 1 v n xs) (hb : Below w.heap.size w w') : w'.ownsRow base e 1 v n xs :=
  h.kept (row := none) ⟨hb.os, hb.tape, hb.output, hb.size, fun k hk _ => hb.block k hk⟩ (by cases h : v.ownBlock with | none => exact .inl rfl | some g => exact .inr (by simp))
/-- Two blocks, and no other that was there, may have been written. -/
structure G2 (a b : Option Nat) (w w' : World) : Prop where
  os : w'.os = w.os
  tape : w'.tape = w.tape
  output : w'.output = w.output
  size : w.heap.size ≤ w'.heap.size
  block : ∀ k, k < w.heap.size → some k ≠ a → some k ≠ b → w'.heap[k]? = w.heap[k]?

set_option maxHeartbeats 1000000 in
theorem eqTable_own {b1 b2 b3 b4 n : Nat} {v0 v1 u0 u1 : Value} {w : World} (xs : List (Nat × Nat)) (ys : List Value) (hn : n ≤ 256) (hi : AllInts ys) (h0 : OwnC b1 w v0 n (xs.map cx)) (h1 : OwnI b2 w v1 n ys) (g0 : OwnC b3 w u0 n (xs.map cx)) (g1 : OwnI b4 w u1 n ys) :
    Calls Try.prog 9 #[.agg #[v0, v1], .agg #[u0, u1]] w fun e w' => e = .returned (.bool true) ∧ Below w.heap.size w w' := by
  obtain ⟨a0, p0, rfl, s0⟩ := own_slat h0
  obtain ⟨a1, p1, rfl, s1⟩ := own_slat h1
  obtain ⟨a2, p2, rfl, s2⟩ := own_slat g0
  obtain ⟨a3, p3, rfl, s3⟩ := own_slat g1
  have HA := Lib.hid (show _ ∧ _ ∧ _ ∧ _ from ⟨s0, s1, s2, s3⟩)
  have HI := Lib.hid hi
  clear h0 h1 g0 g1 s0 s1 s2 s3 hi
  go_enter Try.func9, Try.ntmps9
  go_wp2_with fail
  have hb2 : Below w.heap.size w ((w.alloc (Obj.cells #[Value.slice a0 n p0, Value.slice a1 n p1] 25)).alloc (Obj.cells #[Value.slice a2 n p2, Value.slice a3 n p3] 25)) :=
    ((Below.refl _ _).alloc (Nat.le_refl _) _).alloc (by simp) _
  have HB := Lib.hid hb2
  clear hb2
  refine (eqCx_any a0 p0 a2 p2 n xs _ (by omega) (HA.out.1.below HB.out) (HA.out.2.2.1.below HB.out)).mono ?_
  rintro e w1 ⟨n1, rfl, rfl⟩
  go_wp2_with fail
  refine (eqInts_any a1 p1 a3 p3 n ys _ (by omega) HI.out (HA.out.2.1.below HB.out).drewN (HA.out.2.2.2.below HB.out).drewN).mono ?_
  rintro e w2 ⟨n2, rfl, rfl⟩
  go_wp2_with fail
  go_ret
  exact ⟨rfl, below_drewN' HB.out⟩
theorem markC_own {base n k : Nat} {a : Option Addr} {cap : Nat} {w : World} (xs : List (Nat × Nat)) (hn : n ≤ 256) (hk : k ≤ 512) (h : OwnC base w (.slice a n cap) n (xs.map cx)) :
    Calls Try.prog 36 #[.slice a n cap, .int .i64 k] w fun e w' => e = .returned (.int .i64 ((k + n : Nat) : Int)) ∧ OwnC base w' (.slice a n cap) n (marks k n) ∧ w.grownBy w' (Value.slice a n cap).ownBlock := by
  rcases h.2 with ⟨h1, rfl⟩ | ⟨g, c, cur, h1, _⟩
  · cases h1
    refine (markCx_none _ _ k w).mono ?_
    rintro e w' ⟨rfl, rfl⟩
    exact ⟨rfl, ⟨rfl, .inl ⟨rfl, rfl⟩⟩, rfl, rfl, rfl, Nat.le_refl _, fun _ _ _ => rfl⟩
  · cases h1
    exact markCx_some base g n cap k xs w hn hk h
theorem markI_own {base n k : Nat} {a : Option Addr} {cap : Nat} {w : World} (xs : List Value) (hn : n ≤ 256) (hk : k ≤ 512) (hi : AllInts xs) (h : OwnI base w (.slice a n cap) n xs) :
    Calls Try.prog 37 #[.slice a n cap, .int .i64 k] w fun e w' => e = .returned (.int .i64 ((k + n : Nat) : Int)) ∧ OwnI base w' (.slice a n cap) n (counts k n) ∧ w.grownBy w' (Value.slice a n cap).ownBlock := by
  rcases h.2 with ⟨h1, rfl⟩ | ⟨g, c, cur, h1, _⟩
  · cases h1
    refine (markInts_none _ _ k w).mono ?_
    rintro e w' ⟨rfl, rfl⟩
    exact ⟨rfl, ⟨rfl, .inl ⟨rfl, rfl⟩⟩, rfl, rfl, rfl, Nat.le_refl _, fun _ _ _ => rfl⟩
  · cases h1
    exact markInts_some base g n cap k xs w hn hk hi h
set_option maxHeartbeats 1000000 in
theorem markTable_own {b1 b2 n : Nat} {v0 v1 : Value} {w : World} (xs : List (Nat × Nat)) (ys : List Value) (hn : n ≤ 256) (hi : AllInts ys) (h0 : OwnC b1 w v0 n (xs.map cx)) (h1 : OwnI b2 w v1 n ys) :
    Calls Try.prog 10 #[.agg #[v0, v1], .int .i64 1] w fun e w' => e = .returned (.int .i64 ((1 + n + n : Nat) : Int)) ∧ OwnC b1 w' v0 n (marks 1 n) ∧ OwnI b2 w' v1 n (counts (1 + n) n) ∧ G2 v0.ownBlock v1.ownBlock w w' := by
  obtain ⟨a0, p0, rfl⟩ := owns_form h0
  obtain ⟨a1, p1, rfl⟩ := owns_form h1
  have HO := Lib.hid (show _ ∧ _ from ⟨h0, h1⟩)
  clear h0 h1
  go_enter Try.func10, Try.ntmps10
  go_wp2_with fail
  refine (markC_own (k := 1) xs hn (by omega) (World.ownsRow.alloc HO.out.1 _)).mono ?_
  rintro e w1 ⟨rfl, ho, hg⟩
  have hc2 : w1.cell? ⟨w.heap.size, 1, none⟩ = some (.slice a1 n p1) := by
    rw [World.cell?_of_block (w := w.alloc _) (hg.block w.heap.size (by simp) (fun he => by have := (World.ownsRow.lt HO.out.1 _ he.symm).2; omega)), World.cell?_alloc_new]; rfl
  have H1 := Lib.hid (show _ ∧ _ ∧ _ from ⟨ho, hg, World.ownsRow.kept (World.ownsRow.alloc HO.out.2 _) hg (own_apart HO.out.2 HO.out.1 (by decide))⟩)
  clear ho hg
  go_wp2_with fail
  refine (markI_own (k := 1 + n) ys hn (by omega) hi H1.out.2.2).mono ?_
  rintro e w2 ⟨rfl, ho2, hg2⟩
  have H2 := Lib.hid (show _ ∧ _ ∧ _ from ⟨ho2, hg2, World.ownsRow.kept H1.out.1 hg2 (own_apart H1.out.1 H1.out.2.2 (by decide))⟩)
  clear ho2 hg2
  go_wp2_with fail
  go_ret
  have g1 := H1.out.2.1
  have g2 := H2.out.2.1
  exact ⟨rfl, H2.out.2.2, H2.out.1, g2.os.trans g1.os, g2.tape.trans g1.tape, g2.output.trans g1.output, Nat.le_trans (Nat.le_trans (by simp) g1.size) g2.size,
    fun j hj h1 h2 => (g2.block j (Nat.lt_of_lt_of_le hj (Nat.le_trans (by simp) g1.size)) h2).trans ((g1.block j (by simp; omega) h1).trans (Below.heap_alloc _ _ _ hj))⟩
theorem heldC_own {base n k : Nat} {a : Option Addr} {cap : Nat} {w : World} (hn : n ≤ 256) (hk : k ≤ 512) (h : OwnC base w (.slice a n cap) n (marks k n)) :
    Calls Try.prog 38 #[.slice a n cap, .int .i64 k] w fun e w' => e = .returned (.int .i64 ((k + n : Nat) : Int)) ∧ ∃ m, w' = w.drewN m := by
  rcases h.2 with ⟨h1, rfl⟩ | ⟨g, c, cur, h1, _⟩
  · cases h1
    refine (heldCx_none _ _ k w).mono ?_
    rintro e w' ⟨rfl, rfl⟩
    exact ⟨rfl, 0, rfl⟩
  · cases h1
    exact heldCx_some g n cap k w hn hk (holds_of_owns h)
theorem heldI_own {base n k : Nat} {a : Option Addr} {cap : Nat} {w : World} (hn : n ≤ 256) (hk : k ≤ 512) (h : OwnI base w (.slice a n cap) n (counts k n)) :
    Calls Try.prog 39 #[.slice a n cap, .int .i64 k] w fun e w' => e = .returned (.int .i64 ((k + n : Nat) : Int)) ∧ ∃ m, w' = w.drewN m := by
  rcases h.2 with ⟨h1, rfl⟩ | ⟨g, c, cur, h1, _⟩
  · cases h1
    refine (heldInts_none _ _ k w).mono ?_
    rintro e w' ⟨rfl, rfl⟩
    exact ⟨rfl, 0, rfl⟩
  · cases h1
    exact heldInts_some g n cap k w hn hk (holds_of_owns h)
set_option maxHeartbeats 1000000 in
theorem heldTable_own {b1 b2 n : Nat} {v0 v1 : Value} {w : World} (hn : n ≤ 256) (h0 : OwnC b1 w v0 n (marks 1 n)) (h1 : OwnI b2 w v1 n (counts (1 + n) n)) :
    Calls Try.prog 11 #[.agg #[v0, v1], .int .i64 1] w fun e w' => e = .returned (.int .i64 ((1 + n + n : Nat) : Int)) ∧ Below w.heap.size w w' := by
  obtain ⟨a0, p0, rfl⟩ := owns_form h0
  obtain ⟨a1, p1, rfl⟩ := owns_form h1
  have HO := Lib.hid (show _ ∧ _ from ⟨World.ownsRow.alloc h0 (Obj.cells #[Value.slice a0 n p0, Value.slice a1 n p1] 25), World.ownsRow.alloc h1 (Obj.cells #[Value.slice a0 n p0, Value.slice a1 n p1] 25)⟩)
  clear h0 h1
  have hp1 : ¬ ((1 + n : Nat) : Int) < 0 := by omega
  have hp2 : ¬ ((1 + n + n : Nat) : Int) < 0 := by omega
  go_enter Try.func11, Try.ntmps11
  go_wp2_with fail
  refine (heldC_own (k := 1) hn (by omega) HO.out.1).mono ?_
  rintro e w1 ⟨rfl, m1, rfl⟩
  go_wp2_with fail
  refine (heldI_own (k := 1 + n) (w := (w.alloc (Obj.cells #[Value.slice a0 n p0, Value.slice a1 n p1] 25)).drewN m1) hn (by omega) HO.out.2).mono ?_
  rintro e w2 ⟨rfl, m2, rfl⟩
  go_wp2_with fail
  go_ret
  exact ⟨rfl, below_drewN' ((Below.refl _ _).alloc (Nat.le_refl _) _)⟩
end Go.Proofs.Ytolflcjaglgphaa
