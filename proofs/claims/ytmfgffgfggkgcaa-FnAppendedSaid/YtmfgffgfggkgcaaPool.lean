/-
  laws.eqPool, markPool, heldPool at pools without leases; NewPool of the program and of the reference.
-/
import Derived.Test.YtmfgffgfggkgcaaMark
import Derived.Test.YtmfgffgfggkgcaaFromS
import Derived.Handy
namespace Go.Proofs.Ytmfgffgfggkgcaa
open Go.RowKit

set_option maxHeartbeats 400000 in
theorem eqLeases_none (w : World) : Calls Try.prog 20 #[.slice none 0 0, .slice none 0 0] w fun e w' => e = .returned (.bool true) ∧ w' = w := by
  go_enter Try.func20, Try.ntmps20
  go_wp2
  go_loop [5] (fun i => i = .int .i64 0) (fun i => 1 - (intOf i).toNat)
  case atStart => exact rfl
  case round =>
    obtain rfl := hrel
    go_wp2
    go_ret
    exact ⟨rfl, rfl⟩
set_option maxHeartbeats 400000 in
theorem markLeases_none (k : Nat) (w : World) : Calls Try.prog 22 #[.slice none 0 0, .int .i64 k] w fun e w' => e = .returned (.int .i64 k) ∧ w' = w := by
  go_enter Try.func22, Try.ntmps22
  go_wp2
  go_loop [1, 5] (fun q i => i = .int .i64 0 ∧ q = .int .i64 k) (fun _ i => 1 - (intOf i).toNat)
  case atStart => exact ⟨rfl, rfl⟩
  case round =>
    obtain ⟨rfl, rfl⟩ := hrel
    go_wp2
    go_ret
    exact ⟨rfl, rfl⟩
set_option maxHeartbeats 400000 in
theorem heldLeases_none (k : Nat) (w : World) : Calls Try.prog 24 #[.slice none 0 0, .int .i64 k] w fun e w' => e = .returned (.int .i64 k) ∧ w' = w := by
  go_enter Try.func24, Try.ntmps24
  go_wp2
  go_loop [1, 5] (fun q i => i = .int .i64 0 ∧ q = .int .i64 k) (fun _ i => 1 - (intOf i).toNat)
  case atStart => exact ⟨rfl, rfl⟩
  case round =>
    obtain ⟨rfl, rfl⟩ := hrel
    go_wp2
    go_ret
    exact ⟨rfl, rfl⟩
/-- A pool without leases. -/
def pool (v : Value) : Value := .agg #[v, .slice none 0 0]
set_option maxHeartbeats 1000000 in
theorem eqPool_any (a : Option Addr) (ca : Nat) (b : Option Addr) (cb len : Nat) (xs : List (Nat × Nat)) (w : World) (hlen : len ≤ 1048576) (ha : SlAt w a len (xs.map cx)) (hb : SlAt w b len (xs.map cx)) :
    Calls Try.prog 7 #[pool (.slice a len ca), pool (.slice b len cb)] w fun e w' => e = .returned (.bool true) ∧ Below w.heap.size w w' := by
  have HA := Lib.hid (show _ ∧ _ from ⟨ha, hb⟩)
  clear ha hb
  unfold pool
  go_enter Try.func7, Try.ntmps7
  go_wp2_with fail
  have hb2 : Below w.heap.size w ((w.alloc (Obj.cells #[Value.slice a len ca, Value.slice none 0 0] 25)).alloc (Obj.cells #[Value.slice b len cb, Value.slice none 0 0] 25)) :=
    ((Below.refl _ _).alloc (Nat.le_refl _) _).alloc (by simp) _
  have HB := Lib.hid hb2
  clear hb2
  refine (eqCx_any a ca b cb len xs _ hlen (HA.out.1.below HB.out) (HA.out.2.below HB.out)).mono ?_
  rintro e w1 ⟨n1, rfl, rfl⟩
  go_wp2_with fail
  refine (eqLeases_none _).mono ?_
  rintro e w2 ⟨rfl, rfl⟩
  go_wp2_with fail
  go_ret
  exact ⟨rfl, below_drewN' HB.out⟩
set_option maxHeartbeats 1000000 in
theorem markPool_some (base g n cap k : Nat) (xs : List (Nat × Nat)) (w : World) (hn : n ≤ 256) (hk : k ≤ 512) (ho : w.ownsRow base 37 1 (.slice (some ⟨g, 0, none⟩) n cap) n (xs.map cx)) :
    Calls Try.prog 8 #[pool (.slice (some ⟨g, 0, none⟩) n cap), .int .i64 k] w (MarkAns k n base g 37 cap w) := by
  have HO := Lib.hid ho
  clear ho
  unfold pool
  go_enter Try.func8, Try.ntmps8
  go_wp2_with fail
  refine (markCx_some base g n cap k xs _ hn hk (HO.out.alloc _)).mono ?_
  rintro e w1 ⟨rfl, ho, hg⟩
  have HM := Lib.hid (show _ ∧ _ from ⟨ho, hg⟩)
  have hgw := (ho.lt g rfl).2
  have hgl : g < w.heap.size := (HO.out.lt g rfl).2
  have hc2 : w1.cell? ⟨w.heap.size, 1, none⟩ = some (.slice none 0 0) := by
    rw [World.cell?_of_block (w := w.alloc _) (hg.block w.heap.size (by simp) (by simp; omega)), World.cell?_alloc_new]; rfl
  clear ho hg
  go_wp2_with fail
  refine (markLeases_none (k + n) _).mono ?_
  rintro e w2 ⟨rfl, rfl⟩
  go_wp2_with fail
  go_ret
  refine ⟨rfl, HM.out.1, ?_⟩
  have hg := HM.out.2
  exact ⟨hg.os, hg.tape, hg.output, Nat.le_trans (by simp) hg.size, fun j hj hne => (hg.block j (by simp; omega) hne).trans (Below.heap_alloc _ _ _ hj)⟩
theorem markPool_none (k : Nat) (w : World) : Calls Try.prog 8 #[pool (.slice none 0 0), .int .i64 k] w fun e w' => e = .returned (.int .i64 k) ∧ Below w.heap.size w w' := by
  unfold pool
  go_enter Try.func8, Try.ntmps8
  go_wp2_with fail
  refine (markCx_none _ _ k _).mono ?_
  rintro e w1 ⟨rfl, rfl⟩
  go_wp2_with fail
  refine (markLeases_none k _).mono ?_
  rintro e w2 ⟨rfl, rfl⟩
  go_wp2_with fail
  go_ret
  exact ⟨rfl, (Below.refl _ _).alloc (Nat.le_refl _) _⟩
set_option maxHeartbeats 1000000 in
theorem heldPool_some (g n cap k : Nat) (w : World) (hn : n ≤ 256) (hk : k ≤ 512) (hg : g < w.heap.size) (ho : Holds w g 0 (marks k n)) :
    Calls Try.prog 9 #[pool (.slice (some ⟨g, 0, none⟩) n cap), .int .i64 k] w fun e w' => e = .returned (.int .i64 ((k + n : Nat) : Int)) ∧ Below w.heap.size w w' := by
  have HO := Lib.hid ho
  clear ho
  have hpos : ¬ ((k + n : Nat) : Int) < 0 := by omega
  unfold pool
  go_enter Try.func9, Try.ntmps9
  go_wp2_with fail
  have hb2 : Below w.heap.size w (w.alloc (Obj.cells #[Value.slice (some ⟨g, 0, none⟩) n cap, Value.slice none 0 0] 25)) := (Below.refl _ _).alloc (Nat.le_refl _) _
  have HB := Lib.hid hb2
  clear hb2
  refine (heldCx_some g n cap k _ hn hk (HO.out.below HB.out hg)).mono ?_
  rintro e w1 ⟨rfl, m1, rfl⟩
  go_wp2_with fail
  refine (heldLeases_none (k + n) _).mono ?_
  rintro e w2 ⟨rfl, rfl⟩
  go_wp2_with fail
  go_ret
  exact ⟨rfl, below_drewN' HB.out⟩
theorem heldPool_none (k : Nat) (w : World) : Calls Try.prog 9 #[pool (.slice none 0 0), .int .i64 k] w fun e w' => e = .returned (.int .i64 k) ∧ Below w.heap.size w w' := by
  have hpos : ¬ (k : Int) < 0 := by omega
  unfold pool
  go_enter Try.func9, Try.ntmps9
  go_wp2_with fail
  refine (heldCx_none _ _ k _).mono ?_
  rintro e w1 ⟨rfl, rfl⟩
  go_wp2_with fail
  refine (heldLeases_none k _).mono ?_
  rintro e w2 ⟨rfl, rfl⟩
  go_wp2_with fail
  go_ret
  exact ⟨rfl, (Below.refl _ _).alloc (Nat.le_refl _) _⟩
def PoolAns (n : Int) (w : World) (e : Ending) (w' : World) : Prop :=
  (0 ≤ n ∧ n ≤ 256 ∧ ∃ g, e = .returned (.tuple #[pool (.slice (some ⟨g, 0, none⟩) n.toNat n.toNat), .bool true]) ∧ w'.ownsRow w.heap.size 37 1 (.slice (some ⟨g, 0, none⟩) n.toNat n.toNat) n.toNat ((List.replicate n.toNat ((0, 0) : Nat × Nat)).map cx) ∧ Below w.heap.size w w') ∨
  (¬ (0 ≤ n ∧ n ≤ 256) ∧ e = .returned (.tuple #[pool (.slice none 0 0), .bool false]) ∧ Below w.heap.size w w')
theorem cxInfo : (Try.prog.info? 37).map (fun i => (i.zero, i.size, i.bytes)) = some (some (.complex .f32 0 0), 1, 8) := by kernel_rfl
theorem newPool_impl (n : Int) (w : World) : Calls Try.prog 6 #[.int .i64 n] w (PoolAns n w) := by
  by_cases h0 : 0 ≤ n
  · by_cases h1 : n ≤ 256
    · obtain ⟨m, rfl⟩ : ∃ m : Nat, n = m := ⟨n.toNat, by omega⟩
      obtain ⟨i0, hi, hz0, hz1, hz2⟩ := info_parts cxInfo
      have hmk : ∀ w, (Instr.makeSlice 22 (.int .i64 m) (.int .i64 m)).run Try.prog w = .ok (.slice (some ⟨w.heap.size, 0, none⟩) m m) (w.alloc (.cells (madeCells #[.complex .f32 0 0] m) 37)) := by
        intro w
        have := run_make (P := Try.prog) w 22 37 i0 (.complex .f32 0 0) Try.underlying22 hi hz0 .i64 .i64 m m (by omega) (by omega) (by rw [hz2]; omega) (by omega)
        rw [hz1] at this
        simpa [Value.cells] using this
      have hn0 : ¬ (m : Int) < 0 := by omega
      have hn1 : ¬ (256 : Int) < (m : Int) := by omega
      go_enter Try.func6, Try.ntmps6
      go_wp2_with fail
      clear hmk
      go_returns
      refine .inl ⟨h0, h1, _, rfl, ?_, ((Below.refl _ _).alloc (Nat.le_refl _) _).alloc (by simp) _⟩
      have := World.ownsRow_lit (base := w.heap.size) (e := 37) (size := 1) (w.alloc (Obj.cells #[Value.slice (some ⟨w.heap.size + 1, 0, none⟩) m m, Value.slice none 0 0] 25)) (madeCells #[.complex .f32 0 0] m) m (by simp) (by unfold maxLen; omega) (by rw [size_madeCells]; omega)
      rw [toList_madeCells_one] at this
      simpa [cx] using this
    · have hn1 : (256 : Int) < n := by omega
      go_enter Try.func6, Try.ntmps6
      go_wp2_with fail
      go_returns
      exact .inr ⟨by omega, rfl, (Below.refl _ _).alloc (Nat.le_refl _) _⟩
  · have hn1 : n < (0 : Int) := by omega
    go_enter Try.func6, Try.ntmps6
    go_wp2_with fail
    go_returns
    exact .inr ⟨by omega, rfl, (Below.refl _ _).alloc (Nat.le_refl _) _⟩
theorem newPool_spec (n : Int) (w : World) : Calls Try.prog 5 #[.int .i64 n] w (PoolAns n w) := by
  by_cases h0 : 0 ≤ n
  · by_cases h1 : n ≤ 256
    · obtain ⟨m, rfl⟩ : ∃ m : Nat, n = m := ⟨n.toNat, by omega⟩
      obtain ⟨i0, hi, hz0, hz1, hz2⟩ := info_parts cxInfo
      have hmk : ∀ w, (Instr.makeSlice 22 (.int .i64 m) (.int .i64 m)).run Try.prog w = .ok (.slice (some ⟨w.heap.size, 0, none⟩) m m) (w.alloc (.cells (madeCells #[.complex .f32 0 0] m) 37)) := by
        intro w
        have := run_make (P := Try.prog) w 22 37 i0 (.complex .f32 0 0) Try.underlying22 hi hz0 .i64 .i64 m m (by omega) (by omega) (by rw [hz2]; omega) (by omega)
        rw [hz1] at this
        simpa [Value.cells] using this
      have hin : inB (m : Int) 0 256 = true := by simp [inB]; omega
      go_enter Try.func5, Try.ntmps5
      go_wp2_with fail
      refine (l1In_any _ _ _ _).mono ?_
      rintro e w' ⟨rfl, rfl⟩
      rw [hin]
      go_wp2_with fail
      clear hmk
      go_returns
      refine .inl ⟨h0, h1, _, rfl, ?_, ((Below.refl _ _).alloc (Nat.le_refl _) _).alloc (by simp) _⟩
      have := World.ownsRow_lit (base := w.heap.size) (e := 37) (size := 1) (w.alloc (Obj.cells #[Value.slice (some ⟨w.heap.size + 1, 0, none⟩) m m, Value.slice none 0 0] 25)) (madeCells #[.complex .f32 0 0] m) m (by simp) (by unfold maxLen; omega) (by rw [size_madeCells]; omega)
      rw [toList_madeCells_one] at this
      simpa [cx] using this
    · have hin : inB n 0 256 = false := by simp [inB]; omega
      go_enter Try.func5, Try.ntmps5
      go_wp2_with fail
      refine (l1In_any _ _ _ _).mono ?_
      rintro e w' ⟨rfl, rfl⟩
      rw [hin]
      go_wp2_with fail
      go_returns
      exact .inr ⟨by omega, rfl, (Below.refl _ _).alloc (Nat.le_refl _) _⟩
  · have hin : inB n 0 256 = false := by simp [inB]; omega
    go_enter Try.func5, Try.ntmps5
    go_wp2_with fail
    refine (l1In_any _ _ _ _).mono ?_
    rintro e w' ⟨rfl, rfl⟩
    rw [hin]
    go_wp2_with fail
    go_returns
    exact .inr ⟨by omega, rfl, (Below.refl _ _).alloc (Nat.le_refl _) _⟩
end Go.Proofs.Ytmfgffgfggkgcaa
