/-
  SumSteady of the program and of the reference: the same plain sum of the words, up to NaN. A slice of at most 2^20 words.
-/
import Derived.Test.YtpjplcbcbabbnaaSumF
namespace Go.Proofs.Ytpjplcbcbabbnaa
open Go.RowKit

/-- One step of the steady sum: the sum and what it owes. -/
def steadyStep (p : Nat × Nat) (x : Nat) : Nat × Nat :=
  (fop .add .f32 p.1 (fop .sub .f32 x p.2), fop .sub .f32 (fop .sub .f32 (fop .add .f32 p.1 (fop .sub .f32 x p.2)) p.1) (fop .sub .f32 x p.2))
def steadyP (zs : List Nat) : Nat × Nat := zs.foldl steadyStep (0, 0)
def sumS (zs : List Nat) : Nat := (steadyP zs).1
theorem steady_snoc (zs : List Nat) (x : Nat) : steadyP (zs ++ [x]) = steadyStep (steadyP zs) x := by simp [steadyP]
theorem steady_step {zs : List Nat} {k s c : Nat} (hk : k < zs.length) (h1 : FE .f32 s (steadyP (zs.take k)).1) (h2 : FE .f32 c (steadyP (zs.take k)).2) (w1 w2 : World) :
    FE .f32 (fval .add .f32 s (fval .sub .f32 zs[k] c w1) w2) (steadyP (zs.take (k + 1))).1 := by
  rw [take_map hk, steady_snoc]
  exact fval_FE h1 (fval_FE (FE.refl _ _) h2 _) _
theorem steady_step2 {zs : List Nat} {k s c : Nat} (hk : k < zs.length) (h1 : FE .f32 s (steadyP (zs.take k)).1) (h2 : FE .f32 c (steadyP (zs.take k)).2) (w1 w2 w3 w4 : World) :
    FE .f32 (fval .sub .f32 (fval .sub .f32 (fval .add .f32 s (fval .sub .f32 zs[k] c w1) w2) s w3) (fval .sub .f32 zs[k] c w1) w4) (steadyP (zs.take (k + 1))).2 := by
  have e := fval_FE (op := .sub) (FE.refl .f32 zs[k]) h2 w1
  rw [take_map hk, steady_snoc]
  exact fval_FE (fval_FE (fval_FE h1 e _) h1 _) e _

set_option maxHeartbeats 400000 in
theorem sumS_s_some (b off len cap : Nat) (zs : List Nat) (w : World) (hx : zs.length = len) (hlen : len ≤ 1048576) (hb : Holds w b off (zs.map fl)) :
    Calls Try.prog 16 #[.slice (some ⟨b, off, none⟩) len cap] w (SumAns (sumS zs) w) := by
  go_enter Try.func16, Try.ntmps16
  go_wp2
  go_loopw [3, 4, 11] (fun s c i wr => ∃ k v d m : Nat, k ≤ len ∧ i = .int .i64 k ∧ s = .float .f32 v ∧ c = .float .f32 d ∧ FE .f32 v (steadyP (zs.take k)).1 ∧ FE .f32 d (steadyP (zs.take k)).2 ∧ wr = w.drewN m) (fun _ _ i _ => len - (intOf i).toNat)
  case atStart => exact ⟨0, 0, 0, 0, by omega, rfl, rfl, rfl, FE.refl _ _, FE.refl _ _, rfl⟩
  case round =>
    obtain ⟨k, v, d, m, hk, rfl, rfl, rfl, hv, hd, rfl⟩ := hrel
    by_cases hlt : (k : Int) < (len : Int)
    · have hk' : k < zs.length := by omega
      have hc := holds_map_at hb hk'
      have hst := Lib.hid (fun w1 w2 => steady_step hk' hv hd w1 w2)
      have hst2 := Lib.hid (fun w1 w2 w3 w4 => steady_step2 hk' hv hd w1 w2 w3 w4)
      clear hv hd
      generalize zs[k] = u at *
      go_wp2
      go_roundw
      case rel => exact ⟨k + 1, _, _, _, by omega, by go_num, rfl, rfl, hst.out _ _, hst2.out _ _ _ _, rfl⟩
      case measure => simp [intOf]; omega
    · obtain rfl : k = len := by omega
      go_wp2
      go_ret
      exact ⟨_, _, rfl, by rw [← hx, List.take_length] at hv; exact hv, rfl⟩
set_option maxHeartbeats 400000 in
theorem sumS_s_none (a : Option Addr) (cap : Nat) (w : World) : Calls Try.prog 16 #[.slice a 0 cap] w (SumAns (sumS []) w) := by
  go_enter Try.func16, Try.ntmps16
  go_wp2
  go_loop [3, 4, 11] (fun s c i => i = .int .i64 0 ∧ s = .float .f32 0 ∧ c = .float .f32 0) (fun _ _ i => 1 - (intOf i).toNat)
  case atStart => exact ⟨rfl, rfl, rfl⟩
  case round =>
    obtain ⟨rfl, rfl, rfl⟩ := hrel
    go_wp2
    go_ret
    exact ⟨_, 0, rfl, FE.refl _ _, rfl⟩
theorem sumS_s (a : Option Addr) (len cap : Nat) (zs : List Nat) (w : World) (hlen : len ≤ 1048576) (hh : SlAt w a len (zs.map fl)) :
    Calls Try.prog 16 #[.slice a len cap] w (SumAns (sumS zs) w) := by
  have hz : zs.length = len := by simpa using hh.1
  by_cases h0 : len = 0
  · subst h0
    obtain rfl : zs = [] := List.eq_nil_of_length_eq_zero hz
    exact sumS_s_none a cap w
  · rcases hh.2 with h | ⟨b, off, rfl, hb⟩
    · exact absurd h h0
    · exact sumS_s_some b off len cap zs w hz hlen hb

set_option maxHeartbeats 400000 in
theorem sumS_i_some (b off len cap : Nat) (zs : List Nat) (w : World) (hx : zs.length = len) (hlen : len ≤ 1048576) (hb : Holds w b off (zs.map fl)) :
    Calls Try.prog 17 #[.slice (some ⟨b, off, none⟩) len cap] w (SumAns (sumS zs) w) := by
  go_enter Try.func17, Try.ntmps17
  go_wp2
  go_loopw [3, 4, 12] (fun s c i wr => ∃ k v d m : Nat, k ≤ len ∧ i = .int .i64 k ∧ s = .float .f32 v ∧ c = .float .f32 d ∧ FE .f32 v (steadyP (zs.take k)).1 ∧ FE .f32 d (steadyP (zs.take k)).2 ∧ wr = w.drewN m) (fun _ _ i _ => len - (intOf i).toNat)
  case atStart => exact ⟨0, 0, 0, 0, by omega, rfl, rfl, rfl, FE.refl _ _, FE.refl _ _, rfl⟩
  case round =>
    obtain ⟨k, v, d, m, hk, rfl, rfl, rfl, hv, hd, rfl⟩ := hrel
    by_cases hlt : (k : Int) < (len : Int)
    · have hk' : k < zs.length := by omega
      have hc := holds_map_at hb hk'
      have hst := Lib.hid (fun w1 w2 => steady_step hk' hv hd w1 w2)
      have hst2 := Lib.hid (fun w1 w2 w3 w4 => steady_step2 hk' hv hd w1 w2 w3 w4)
      clear hv hd
      generalize zs[k] = u at *
      go_wp2
      go_roundw
      case rel => exact ⟨k + 1, _, _, _, by omega, by go_num, rfl, rfl, hst.out _ _, hst2.out _ _ _ _, rfl⟩
      case measure => simp [intOf]; omega
    · obtain rfl : k = len := by omega
      go_wp2
      go_ret
      exact ⟨_, _, rfl, by rw [← hx, List.take_length] at hv; exact hv, rfl⟩
set_option maxHeartbeats 400000 in
theorem sumS_i_none (a : Option Addr) (cap : Nat) (w : World) : Calls Try.prog 17 #[.slice a 0 cap] w (SumAns (sumS []) w) := by
  go_enter Try.func17, Try.ntmps17
  go_wp2
  go_loop [3, 4, 12] (fun s c i => i = .int .i64 0 ∧ s = .float .f32 0 ∧ c = .float .f32 0) (fun _ _ i => 1 - (intOf i).toNat)
  case atStart => exact ⟨rfl, rfl, rfl⟩
  case round =>
    obtain ⟨rfl, rfl, rfl⟩ := hrel
    go_wp2
    go_ret
    exact ⟨_, 0, rfl, FE.refl _ _, rfl⟩
theorem sumS_i (a : Option Addr) (len cap : Nat) (zs : List Nat) (w : World) (hlen : len ≤ 1048576) (hh : SlAt w a len (zs.map fl)) :
    Calls Try.prog 17 #[.slice a len cap] w (SumAns (sumS zs) w) := by
  have hz : zs.length = len := by simpa using hh.1
  by_cases h0 : len = 0
  · subst h0
    obtain rfl : zs = [] := List.eq_nil_of_length_eq_zero hz
    exact sumS_i_none a cap w
  · rcases hh.2 with h | ⟨b, off, rfl, hb⟩
    · exact absurd h h0
    · exact sumS_i_some b off len cap zs w hz hlen hb
end Go.Proofs.Ytpjplcbcbabbnaa
