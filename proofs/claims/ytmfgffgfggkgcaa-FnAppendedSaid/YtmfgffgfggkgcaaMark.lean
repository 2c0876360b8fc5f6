/-
  laws.markComplex64S writes a number into each element; laws.heldComplex64S reads it again.
-/
import Derived.Test.YtmfgffgfggkgcaaCx
import Derived.Laws.AppendOwn
namespace Go.Proofs.Ytmfgffgfggkgcaa
open Go.RowKit

/-- The mark of a number: the number itself, in single precision. -/
def mk (k : Nat) : Nat := floatOfInt .f32 (k : Int)
def mkChk (k : Nat) : Bool := (floatToFloatBits .f64 (floatOfInt .f64 (k : Int)) .f32 == some (mk k)) && (FloatKind.f32.format.order (mk k) (mk k) == some .eq)
theorem mk_all : (List.range 1024).all mkChk = true := by decide +kernel
theorem mk_conv {k : Nat} (h : k < 1024) : (∀ w, cval .f64 (floatOfInt .f64 (k : Int)) .f32 w = mk k) ∧ cdn .f64 (floatOfInt .f64 (k : Int)) .f32 = 0 ∧ FloatKind.f32.format.order (mk k) (mk k) = some .eq := by
  have := List.all_eq_true.1 mk_all k (List.mem_range.2 h)
  unfold mkChk at this
  simp only [Bool.and_eq_true, beq_iff_eq] at this
  exact ⟨fun w => by unfold cval; rw [this.1], by unfold cdn; rw [this.1]; rfl, this.2⟩
theorem one_all : floatToFloatBits .f64 4607182418800017408 .f32 = some 1065353216 ∧ FloatKind.f32.format.order 1065353216 1065353216 = some .eq := by decide +kernel
theorem one_conv : (∀ w, cval .f64 4607182418800017408 .f32 w = 1065353216) ∧ cdn .f64 4607182418800017408 .f32 = 0 ∧ FloatKind.f32.format.order 1065353216 1065353216 = some .eq :=
  ⟨fun w => by unfold cval; rw [one_all.1], by unfold cdn; rw [one_all.1]; rfl, one_all.2⟩
/-- n marks from k on. -/
def marks (k n : Nat) : List Value := (List.range n).map fun i => cx (mk (k + i), 1065353216)
theorem marks_len (k n : Nat) : (marks k n).length = n := by simp [marks]
theorem marks_at {k n i : Nat} (h : i < n) : (marks k n)[i]? = some (cx (mk (k + i), 1065353216)) := by
  unfold marks
  rw [List.getElem?_map, List.getElem?_range h]; rfl
theorem marks_set {k n : Nat} {xs : List Value} (h : n < xs.length) : (marks k n ++ xs.drop n).set n (cx (mk (k + n), 1065353216)) = marks k (n + 1) ++ xs.drop (n + 1) := by
  rw [List.set_append_right _ _ (by rw [marks_len]; omega), marks_len, Nat.sub_self]
  rw [List.drop_eq_getElem_cons h]
  show marks k n ++ (_ :: xs.drop (n + 1)) = _
  unfold marks
  rw [List.range_succ, List.map_append, List.append_assoc]; rfl

/-- Block g, and no other that was there, may have been written. -/
def MarkAns (k n base g : Nat) (e0 : Nat) (cap : Nat) (w : World) (e : Ending) (w' : World) : Prop :=
  e = .returned (.int .i64 ((k + n : Nat) : Int)) ∧ w'.ownsRow base e0 1 (.slice (some ⟨g, 0, none⟩) n cap) n (marks k n) ∧ w.grownBy w' (some g)

set_option maxHeartbeats 1000000 in
theorem markCx_some (base g n cap k : Nat) (xs : List (Nat × Nat)) (w : World) (hn : n ≤ 256) (hk : k ≤ 512) (ho : w.ownsRow base 37 1 (.slice (some ⟨g, 0, none⟩) n cap) n (xs.map cx)) :
    Calls Try.prog 21 #[.slice (some ⟨g, 0, none⟩) n cap, .int .i64 k] w (MarkAns k n base g 37 cap w) := by
  have hxl : xs.length = n := by have := ho.1; simpa using this
  have hone := one_conv.1
  have hone2 := one_conv.2.1
  go_enter Try.func21, Try.ntmps21
  go_wp2
  go_loopw [1, 5] (fun q i wr => ∃ j : Nat, j ≤ n ∧ i = .int .i64 j ∧ q = .int .i64 ((k + j : Nat) : Int) ∧ wr.ownsRow base 37 1 (.slice (some ⟨g, 0, none⟩) n cap) n (marks k j ++ (xs.map cx).drop j) ∧ w.grownBy wr (some g)) (fun _ i _ => n - (intOf i).toNat)
  case atStart => exact ⟨0, by omega, rfl, rfl, by simpa [marks] using ho, ⟨rfl, rfl, rfl, Nat.le_refl _, fun _ _ _ => rfl⟩⟩
  case round =>
    obtain ⟨j, hj, rfl, rfl, hown, hgr⟩ := hrel
    by_cases hlt : (j : Int) < (n : Int)
    · have hj' : j < xs.length := by omega
      have hcv := (mk_conv (k := k + j) (by omega)).1
      have hcd := (mk_conv (k := k + j) (by omega)).2.1
      rw [Int.natCast_add] at hcv hcd
      have hz : wr.cell? ⟨g, j, none⟩ = some (.complex .f32 xs[j].1 xs[j].2) := by
        rw [hown.cellAt j (by omega), List.getElem?_append_right (by rw [marks_len]; omega), marks_len, Nat.sub_self, List.getElem?_drop, Nat.add_zero, List.getElem?_map, List.getElem?_eq_getElem hj']; rfl
      have hs := hown.stored j (cx (mk (k + j), 1065353216))
      rw [marks_set (by simpa using hj')] at hs
      have hf := hown.frozenAt j
      have HS := Lib.hid (show _ ∧ _ from ⟨hs, hgr⟩)
      clear hs hown hgr
      go_wp2
      go_roundw
      case rel => exact ⟨j + 1, by omega, by go_num, by go_num, HS.out.1.1, by
        have h := HS.out.1.2
        exact ⟨h.os.trans HS.out.2.os, h.tape.trans HS.out.2.tape, h.output.trans HS.out.2.output, Nat.le_trans HS.out.2.size h.size, fun i hi hne => (h.block i (Nat.lt_of_lt_of_le hi HS.out.2.size) hne).trans (HS.out.2.block i hi hne)⟩⟩
      case measure => simp [intOf]; omega
    · obtain rfl : j = n := by omega
      go_wp2
      go_ret
      exact ⟨rfl, by rwa [List.drop_eq_nil_of_le (by simp; omega), List.append_nil] at hown, hgr⟩

set_option maxHeartbeats 400000 in
theorem markCx_none (a : Option Addr) (cap : Nat) (k : Nat) (w : World) :
    Calls Try.prog 21 #[.slice a 0 cap, .int .i64 k] w fun e w' => e = .returned (.int .i64 k) ∧ w' = w := by
  go_enter Try.func21, Try.ntmps21
  go_wp2
  go_loop [1, 5] (fun q i => i = .int .i64 0 ∧ q = .int .i64 k) (fun _ i => 1 - (intOf i).toNat)
  case atStart => exact ⟨rfl, rfl⟩
  case round =>
    obtain ⟨rfl, rfl⟩ := hrel
    go_wp2
    go_ret
    exact ⟨rfl, rfl⟩

set_option maxHeartbeats 1000000 in
theorem heldCx_some (b n cap k : Nat) (w : World) (hn : n ≤ 256) (hk : k ≤ 512) (hb : Holds w b 0 (marks k n)) :
    Calls Try.prog 23 #[.slice (some ⟨b, 0, none⟩) n cap, .int .i64 k] w fun e w' => e = .returned (.int .i64 ((k + n : Nat) : Int)) ∧ ∃ m, w' = w.drewN m := by
  have hone := one_conv.1
  have hone2 := one_conv.2.1
  have hone3 := one_conv.2.2
  go_enter Try.func23, Try.ntmps23
  go_wp2
  go_loopw [1, 5] (fun q i wr => ∃ j m : Nat, j ≤ n ∧ i = .int .i64 j ∧ q = .int .i64 ((k + j : Nat) : Int) ∧ wr = w.drewN m) (fun _ i _ => n - (intOf i).toNat)
  case atStart => exact ⟨0, 0, by omega, rfl, rfl, rfl⟩
  case round =>
    obtain ⟨j, m, hj, rfl, rfl, rfl⟩ := hrel
    by_cases hlt : (j : Int) < (n : Int)
    · have hj' : j < n := by omega
      have hcv := (mk_conv (k := k + j) (by omega)).1
      have hcd := (mk_conv (k := k + j) (by omega)).2.1
      have hor := (mk_conv (k := k + j) (by omega)).2.2
      rw [Int.natCast_add] at hcv hcd
      have hz : w.cell? ⟨b, j, none⟩ = some (.complex .f32 (mk (k + j)) 1065353216) := by
        have := hb j (by rw [marks_len]; exact hj')
        rw [marks_at hj', Nat.zero_add] at this
        exact this
      generalize mk (k + j) = u at *
      go_wp2
      go_roundw
      case rel => exact ⟨j + 1, _, by omega, by go_num, by go_num, rfl⟩
      case measure => simp [intOf]; omega
    · obtain rfl : j = n := by omega
      go_wp2
      go_ret
      exact ⟨rfl, _, rfl⟩
set_option maxHeartbeats 400000 in
theorem heldCx_none (a : Option Addr) (cap : Nat) (k : Nat) (w : World) :
    Calls Try.prog 23 #[.slice a 0 cap, .int .i64 k] w fun e w' => e = .returned (.int .i64 k) ∧ w' = w := by
  go_enter Try.func23, Try.ntmps23
  go_wp2
  go_loop [1, 5] (fun q i => i = .int .i64 0 ∧ q = .int .i64 k) (fun _ i => 1 - (intOf i).toNat)
  case atStart => exact ⟨rfl, rfl⟩
  case round =>
    obtain ⟨rfl, rfl⟩ := hrel
    go_wp2
    go_ret
    exact ⟨rfl, rfl⟩
end Go.Proofs.Ytmfgffgfggkgcaa
