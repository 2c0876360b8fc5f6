/-
  DistanceOf of the program and of the reference; NearestPoint of the program.
-/
import Derived.Test.YtolflcjaglgphaaIsTab
import Derived.Test.YtolflcjaglgphaaNearP
namespace Go.Proofs.Ytolflcjaglgphaa
open Go.RowKit
/-- The square of the distance, whichever NaN it may be. -/
def DistAns (a b : Nat × Nat) (w : World) (e : Ending) (w' : World) : Prop := ∃ d n, e = .returned (.float .f32 d) ∧ FE .f32 d (distP a b) ∧ w' = w.drewN n
theorem distanceOf_i (a b : Nat × Nat) (w : World) : Calls Try.prog 51 #[cx a, cx b] w (DistAns a b w) := by
  unfold cx
  go_enter Try.func51, Try.ntmps51
  go_wp2_with fail
  go_ret
  exact ⟨_, _, rfl, fval_FE (fval_FE (fval_FE (FE.refl _ _) (FE.refl _ _) _) (fval_FE (FE.refl _ _) (FE.refl _ _) _) _) (fval_FE (fval_FE (FE.refl _ _) (FE.refl _ _) _) (fval_FE (FE.refl _ _) (FE.refl _ _) _) _) _, rfl⟩
theorem distanceOf_s (a b : Nat × Nat) (w : World) : Calls Try.prog 22 #[cx a, cx b] w (DistAns a b w) := by
  unfold cx
  go_enter Try.func22, Try.ntmps22
  go_wp2_with fail
  go_ret
  exact ⟨_, _, rfl, fval_FE (fval_FE (fval_FE (FE.refl _ _) (FE.refl _ _) _) (fval_FE (FE.refl _ _) (FE.refl _ _) _) _) (fval_FE (fval_FE (FE.refl _ _) (FE.refl _ _) _) (fval_FE (FE.refl _ _) (FE.refl _ _) _) _) _, rfl⟩
def NearAns (ps : List (Nat × Nat)) (ok : Bool) (w : World) (z : Nat × Nat) (e : Ending) (w' : World) : Prop :=
  e = .returned (.tuple #[.int .i64 (if ok && decide (0 ≤ nearI ps z) then nearI ps z else 0), .bool (ok && decide (0 ≤ nearI ps z))]) ∧ Below w.heap.size w w'
set_option maxHeartbeats 2000000 in
theorem nearest_i (v0 v1 : Value) (ps : List (Nat × Nat)) (ls : List Int) (z : Nat × Nat) (w : World) (ht : TabIn w v0 v1 ps ls) :
    Calls Try.prog 21 #[.agg #[v0, v1], cx z] w (NearAns ps (isTab ps ls.length) w z) := by
  have ht' := ht
  obtain ⟨a, n, ca, b, m, cb, rfl, rfl, hp, hq, hca, hca2, -, -, hn, hm, hwf⟩ := ht
  have hl : ps.length = n := by simpa using hp.1
  have hb : Below w.heap.size w (w.alloc (Obj.cells #[Value.slice a n ca, Value.slice b m cb] 25)) := (Below.refl _ _).alloc (Nat.le_refl _) _
  have HP := Lib.hid (show _ ∧ _ ∧ _ from ⟨hp.below hb, hb, ht'.below hb⟩)
  clear hp hq hb hwf ht'
  go_enter Try.func21, Try.ntmps21
  go_wp2_with fail
  have hc0 : (w.alloc (Obj.cells #[Value.slice a n ca, Value.slice b m cb] 25)).cell? ⟨w.heap.size, 0, none⟩ = some (.slice a n ca) := by rw [World.cell?_alloc_new]; rfl
  have hlw : w.heap.size < (w.alloc (Obj.cells #[Value.slice a n ca, Value.slice b m cb] 25)).heap.size := by simp
  generalize w.alloc (Obj.cells #[Value.slice a n ca, Value.slice b m cb] 25) = x at *
  refine (isTable_i _ _ ps ls _ HP.out.2.2).mono ?_
  rintro e y ⟨rfl, hby⟩
  have hc1 : y.cell? ⟨w.heap.size, 0, none⟩ = some (.slice a n ca) := by rw [hby.cell (p := ⟨w.heap.size, 0, none⟩) hlw]; exact hc0
  have HY := Lib.hid (show _ ∧ _ from ⟨HP.out.1.below hby, HP.out.2.1.trans (hby.mono HP.out.2.1.size)⟩)
  clear hby HP hc0
  cases hok : isTab ps ls.length with
  | false =>
    go_wp2_with fail
    go_ret2
    refine ⟨?_, HY.out.2⟩
    rw [hok]; rfl
  | true =>
    go_wp2_with fail
    go_loopw [6, 7, 17] (fun bv lv kv wr => ∃ k l q : Nat, k ≤ n ∧ kv = .int .i64 k ∧ bv = .int .i64 (nearTo ps z k).1 ∧ lv = .float .f32 l ∧ FE .f32 l (nearTo ps z k).2 ∧ wr = y.drewN q) (fun _ _ kv _ => n - (intOf kv).toNat)
    case atStart => exact ⟨0, 0, 0, by omega, rfl, rfl, rfl, FE.refl _ _, rfl⟩
    case round =>
      obtain ⟨k, l, q, hk, rfl, rfl, rfl, hl2, rfl⟩ := hrel
      have HL := Lib.hid hl2
      clear hl2
      by_cases hlt : (k : Int) < (n : Int)
      · have hk' : k < ps.length := by omega
        rcases HY.out.1.2 with h | ⟨g, off, rfl, hh⟩
        · omega
        · have hcx : y.cell? ⟨g, off + k, none⟩ = some (.complex .f32 ps[k].1 ps[k].2) := by
            rw [hh.at (by simpa using hk'), List.getElem_map]; rfl
          clear hh
          go_wp2_with fail
          refine (distanceOf_i ps[k] z _).mono ?_
          rintro e w1 ⟨d, q1, rfl, hd, rfl⟩
          have e1 : (FloatKind.f32.format.order d d == some .eq) = eqS (distP ps[k] z) (distP ps[k] z) := by rw [order_FE hd hd]; rfl
          have e2 : (FloatKind.f32.format.order d l == some .lt) = ltS (distP ps[k] z) (nearTo ps z k).2 := by rw [order_FE hd HL.out]; rfl
          have HD := Lib.hid hd
          clear hd
          have hbd := nearTo_bd ps z k (by omega)
          cases h1 : eqS (distP ps[k] z) (distP ps[k] z) with
          | false =>
            have hm := near_miss (z := z) hk' (by unfold takes; rw [h1]; rfl)
            rw [h1] at e1
            go_wp2_with fail
            go_roundw
            case rel => exact ⟨k + 1, l, _, by omega, by go_num, by rw [hm], rfl, by rw [hm]; exact HL.out, rfl⟩
            case measure => simp [intOf]; omega
          | true =>
            rw [h1] at e1
            by_cases hneg : (nearTo ps z k).1 < 0
            · have hh := near_hit (z := z) hk' (by unfold takes; rw [h1]; simp [hneg])
              go_wp2_with fail
              go_roundw
              case rel => exact ⟨k + 1, d, _, by omega, by go_num, by rw [hh], rfl, by rw [hh]; exact HD.out, rfl⟩
              case measure => simp [intOf]; omega
            · cases h2 : ltS (distP ps[k] z) (nearTo ps z k).2 with
              | false =>
                have hm := near_miss (z := z) hk' (by unfold takes; rw [h1, h2]; simp [hneg])
                rw [h2] at e2
                go_wp2_with fail
                go_roundw
                case rel => exact ⟨k + 1, l, _, by omega, by go_num, by rw [hm], rfl, by rw [hm]; exact HL.out, rfl⟩
                case measure => simp [intOf]; omega
              | true =>
                have hh := near_hit (z := z) hk' (by unfold takes; rw [h1, h2]; simp)
                rw [h2] at e2
                go_wp2_with fail
                go_roundw
                case rel => exact ⟨k + 1, d, _, by omega, by go_num, by rw [hh], rfl, by rw [hh]; exact HD.out, rfl⟩
                case measure => simp [intOf]; omega
      · obtain rfl : k = n := by omega
        have hI : (nearTo ps z k).1 = nearI ps z := by rw [nearI_to, hl]
        rw [hI]
        by_cases hneg : nearI ps z < 0
        · go_wp2_with fail
          go_ret2
          refine ⟨?_, below_drewN' HY.out.2⟩
          rw [decide_eq_false (show ¬ 0 ≤ nearI ps z by omega)]; rfl
        · go_wp2_with fail
          go_ret2
          refine ⟨?_, below_drewN' HY.out.2⟩
          rw [decide_eq_true (show 0 ≤ nearI ps z by omega)]; rfl
end Go.Proofs.Ytolflcjaglgphaa
