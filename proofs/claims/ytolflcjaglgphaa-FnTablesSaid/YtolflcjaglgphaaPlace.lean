/-
  EqualPoints, the place of a point, finite points: of the program and of the reference.
-/
import Derived.Test.YtolflcjaglgphaaCx
import Derived.Test.YtolflcjaglgphaaTabP
import Derived.Handy
import Derived.Deep.QuietTactic
import Derived.BigQuiet
namespace Go.Proofs.Ytolflcjaglgphaa
open Go.RowKit
@[go_sem] theorem run_f32bits (x : Nat) (w : World) : (callFunc 71 #[.float .f32 x]).run Try.prog w = .ok (.value (.int .u32 x)) w := by
  rw [run_callFunc_extern (e := Extern.MathFloatBits.float32bits) Try.func71 (by kernel_rfl) (by kernel_rfl) (by kernel_rfl) (by kernel_rfl)]; rfl
theorem bits_low (x : Nat) (h : x < 4294967296) : bits BinOp.and IntKind.u32 (x : Int) 2147483647 = ((x % 2147483648 : Nat) : Int) := by
  rw [show (2147483647 : Int) = ((2147483647 : Nat) : Int) from rfl, u32_and_nat x 2147483647 h (by decide)]
  congr 1
  exact Nat.and_two_pow_sub_one_eq_mod x 31
theorem isFinite_any (x : Nat) (w : World) (h : x < 4294967296) : Calls Try.prog 70 #[.float .f32 x] w fun e w' => e = .returned (.bool (finS x)) ∧ w' = w := by
  have hb := bits_low x h
  have he : finS x = decide (((x % 2147483648 : Nat) : Int) ≤ 2139095039) := by
    rw [finS_eq, s_inf]
    show decide (x % Ieee.single.signWeight < 2139095040) = _
    rw [s_sw]
    exact decide_eq_decide.2 (by omega)
  rw [he]
  clear he
  go_enter Try.func70, Try.ntmps70
  go_wp2_with fail
  go_ret
  exact ⟨by simp, rfl⟩
theorem isFinitePoint_any (p : Nat × Nat) (w : World) (h1 : p.1 < 4294967296) (h2 : p.2 < 4294967296) : Calls Try.prog 58 #[cx p] w fun e w' => e = .returned (.bool (cfin p)) ∧ w' = w := by
  unfold cfin cx
  go_enter Try.func58, Try.ntmps58
  go_wp2_with fail
  refine (isFinite_any _ _ h1).mono ?_
  rintro e w1 ⟨rfl, rfl⟩
  cases hf : finS p.1 with
  | true =>
    go_wp2_with fail
    refine (isFinite_any _ _ h2).mono ?_
    rintro e w2 ⟨rfl, rfl⟩
    go_wp2_with fail
    go_ret
    exact ⟨by simp [hf], rfl⟩
  | false =>
    go_wp2_with fail
    go_ret
    exact ⟨by simp [hf], rfl⟩

theorem equal_any (p q : Nat × Nat) (w : World) : Calls Try.prog 28 #[cx p, cx q] w fun e w' => e = .returned (.bool (ceq p q)) ∧ w' = w := by
  unfold ceq cx
  cases h1 : (FloatKind.f32.format.order p.1 q.1 == some .eq) with
  | true =>
    go_enter Try.func28, Try.ntmps28
    go_wp2_with fail
    go_ret
    exact ⟨rfl, rfl⟩
  | false =>
    go_enter Try.func28, Try.ntmps28
    go_wp2_with fail
    go_ret
    exact ⟨rfl, rfl⟩
theorem l1Finite_any (x : Nat) (w : World) : Calls Try.prog 67 #[.float .f32 x] w fun e w' => e = .returned (.bool (finS x)) ∧ ∃ n, w' = w.drewN n := by
  unfold finS
  go_enter Try.func67, Try.ntmps67
  go_wp2_with fail
  go_ret
  exact ⟨by first | rfl | simp [order_fval_left], _, rfl⟩
theorem l2Finite_any (p : Nat × Nat) (w : World) : Calls Try.prog 53 #[cx p] w fun e w' => e = .returned (.bool (cfin p)) ∧ ∃ n, w' = w.drewN n := by
  unfold cfin cx
  go_enter Try.func53, Try.ntmps53
  go_wp2_with fail
  refine (l1Finite_any _ _).mono ?_
  rintro e w1 ⟨rfl, n1, rfl⟩
  cases h1 : finS p.1 with
  | true =>
    go_wp2_with fail
    refine (l1Finite_any _ _).mono ?_
    rintro e w2 ⟨rfl, n2, rfl⟩
    go_wp2_with fail
    go_ret
    exact ⟨by simp [h1], _, rfl⟩
  | false =>
    go_wp2_with fail
    go_ret
    exact ⟨by simp [h1], _, rfl⟩

/-- The closure that compares with the point in block c. -/
theorem placeFn_any (p z : Nat × Nat) (c : Nat) (w : World) (hc : w.cell? ⟨c, 0, none⟩ = some (cx z)) : Calls Try.prog 62 #[cx p, .pointer (some ⟨c, 0, none⟩)] w fun e w' => e = .returned (.bool (ceq p z)) ∧ w' = w := by
  go_enter Try.func62, Try.ntmps62
  go_wp2_with fail
  refine (equal_any p z _).mono ?_
  rintro e w1 ⟨rfl, rfl⟩
  go_wp2_with fail
  go_ret
  exact ⟨rfl, rfl⟩
set_option maxHeartbeats 1000000 in
theorem l2At_any (v1 : Value) (a : Option Addr) (n cap : Nat) (ps : List (Nat × Nat)) (z : Nat × Nat) (w : World) (hn : n ≤ 1048576) (hp : SlAt w a n (ps.map cx)) (b1 : Option Addr) (m1 k1 : Nat) (hv1 : v1 = .slice b1 m1 k1) :
    Calls Try.prog 47 #[.agg #[.slice a n cap, v1], cx z] w fun e w' => e = .returned (.int .i64 (idxI ps z)) ∧ Below w.heap.size w w' := by
  subst hv1
  have hl : ps.length = n := by simpa using hp.1
  have HP := Lib.hid hp
  clear hp
  unfold cx
  go_enter Try.func47, Try.ntmps47
  go_wp2_with fail
  have HB := Lib.hid (show Below w.heap.size w (w.alloc (Obj.cells #[Value.slice a n cap, Value.slice b1 m1 k1] 25)) from (Below.refl _ _).alloc (Nat.le_refl _) _)
  go_loop [10] (fun i => ∃ k : Nat, k ≤ n ∧ i = .int .i64 k ∧ ∀ j (hj : j < ps.length), j < k → ceq ps[j] z = false) (fun i => n - (intOf i).toNat)
  case atStart => exact ⟨0, by omega, rfl, fun j hj h => by omega⟩
  case round =>
    obtain ⟨k, hk, rfl, hall⟩ := hrel
    have HA := Lib.hid hall
    clear hall
    by_cases hlt : (k : Int) < (n : Int)
    · have hk' : k < ps.length := by omega
      have hs := HP.out.below HB.out
      rcases hs.2 with h | ⟨b, off, rfl, hh⟩
      · omega
      · have hcx : (w.alloc (Obj.cells #[Value.slice (some ⟨b, off, none⟩) n cap, Value.slice b1 m1 k1] 25)).cell? ⟨b, off + k, none⟩ = some (.complex .f32 ps[k].1 ps[k].2) := by
          rw [hh.at (by simpa using hk'), List.getElem_map]; rfl
        clear hs hh
        cases he : ceq ps[k] z with
        | true =>
          have he1 : (FloatKind.f32.format.order ps[k].1 z.1 == some .eq && FloatKind.f32.format.order ps[k].2 z.2 == some .eq) = true := he
          go_wp2_with fail
          go_ret
          exact ⟨ret_int (idx_hit hk' he fun j hj => HA.out j (by omega) hj).symm, HB.out⟩
        | false =>
          have he1 : (FloatKind.f32.format.order ps[k].1 z.1 == some .eq && FloatKind.f32.format.order ps[k].2 z.2 == some .eq) = false := he
          go_wp2_with fail
          go_round
          case rel =>
            refine ⟨k + 1, by omega, by go_num, fun j hj h => ?_⟩
            by_cases hjk : j = k
            · subst hjk; exact he
            · exact HA.out j hj (by omega)
          case measure => simp [intOf]; omega
    · go_wp2_with fail
      go_ret
      exact ⟨ret_int (idx_miss fun j hj => HA.out j hj (by omega)).symm, HB.out⟩

set_option maxHeartbeats 1000000 in
/-- slices.IndexFunc with that closure. -/
theorem indexFunc_any (a : Option Addr) (n cap c : Nat) (ps : List (Nat × Nat)) (z : Nat × Nat) (w : World) (hn : n ≤ 1048576) (hp : SlAt w a n (ps.map cx)) (hc : w.cell? ⟨c, 0, none⟩ = some (cx z)) :
    Calls Try.prog 61 #[.slice a n cap, .func (.func 62) #[] #[.pointer (some ⟨c, 0, none⟩)]] w fun e w' => e = .returned (.int .i64 (idxI ps z)) ∧ w' = w := by
  have hl : ps.length = n := by simpa using hp.1
  have HP := Lib.hid hp
  have HC := Lib.hid hc
  clear hp hc
  go_enter Try.func61, Try.ntmps61
  go_wp2_with fail
  go_loop [8] (fun i => ∃ k : Nat, k ≤ n ∧ i = .int .i64 k ∧ ∀ j (hj : j < ps.length), j < k → ceq ps[j] z = false) (fun i => n - (intOf i).toNat)
  case atStart => exact ⟨0, by omega, rfl, fun j hj h => by omega⟩
  case round =>
    obtain ⟨k, hk, rfl, hall⟩ := hrel
    have HA := Lib.hid hall
    clear hall
    by_cases hlt : (k : Int) < (n : Int)
    · have hk' : k < ps.length := by omega
      rcases HP.out.2 with h | ⟨b, off, rfl, hh⟩
      · omega
      · have hcx : w.cell? ⟨b, off + k, none⟩ = some (.complex .f32 ps[k].1 ps[k].2) := by
          rw [hh.at (by simpa using hk'), List.getElem_map]; rfl
        clear hh
        go_wp2_with fail
        refine (placeFn_any ps[k] z c _ HC.out).mono ?_
        rintro e w1 ⟨rfl, rfl⟩
        cases he : ceq ps[k] z with
        | true =>
          go_wp2_with fail
          go_ret
          exact ⟨ret_int (idx_hit hk' he fun j hj => HA.out j (by omega) hj).symm, rfl⟩
        | false =>
          go_wp2_with fail
          go_round
          case rel =>
            refine ⟨k + 1, by omega, by go_num, fun j hj h => ?_⟩
            by_cases hjk : j = k
            · subst hjk; exact he
            · exact HA.out j hj (by omega)
          case measure => simp [intOf]; omega
    · go_wp2_with fail
      go_ret
      exact ⟨ret_int (idx_miss fun j hj => HA.out j hj (by omega)).symm, rfl⟩
theorem place_any (a : Option Addr) (n cap : Nat) (ps : List (Nat × Nat)) (z : Nat × Nat) (w : World) (hn : n ≤ 1048576) (hp : SlAt w a n (ps.map cx)) :
    Calls Try.prog 45 #[.slice a n cap, cx z] w fun e w' => e = .returned (.int .i64 (idxI ps z)) ∧ Below w.heap.size w w' := by
  unfold cx
  go_enter Try.func45, Try.ntmps45
  go_wp2_with fail
  have hb : Below w.heap.size w (w.alloc (Obj.cells #[Value.complex FloatKind.f32 z.fst z.snd] 33)) := (Below.refl _ _).alloc (Nat.le_refl _) _
  refine (indexFunc_any a n cap w.heap.size ps z _ hn (hp.below hb) (by rw [World.cell?_alloc_new]; rfl)).mono ?_
  rintro e w1 ⟨rfl, rfl⟩
  go_wp2_with fail
  go_ret
  exact ⟨rfl, hb⟩
end Go.Proofs.Ytolflcjaglgphaa
