/-
  SumDouble of the program and of the reference: the same plain sum of the words, up to NaN. A slice of at most 2^20 words.
-/
import Derived.Test.YtpjplcbcbabbnaaSumF
namespace Go.Proofs.Ytpjplcbcbabbnaa
open Go.RowKit

def sumD (zs : List Nat) : Nat := zs.foldl (fun s x => fop .add .f64 s (cop .f32 x .f64)) 0
theorem sumD_snoc (zs : List Nat) (x : Nat) : sumD (zs ++ [x]) = fop .add .f64 (sumD zs) (cop .f32 x .f64) := by simp [sumD]
theorem sumD_step {zs : List Nat} {k v : Nat} (hk : k < zs.length) (h : FE .f64 v (sumD (zs.take k))) (w1 w2 : World) : FE .f64 (fval .add .f64 v (cval .f32 zs[k] .f64 w1) w2) (sumD (zs.take (k + 1))) := by
  rw [take_map hk, sumD_snoc]; exact fval_FE h (cval_wide _ _) _
def DoubleAns (r : Nat) (w : World) (e : Ending) (w' : World) : Prop := ∃ v n, e = .returned (.float .f64 v) ∧ FE .f64 v r ∧ w' = w.drewN n

set_option maxHeartbeats 400000 in
theorem sumD_s_some (b off len cap : Nat) (zs : List Nat) (w : World) (hx : zs.length = len) (hlen : len ≤ 1048576) (hb : Holds w b off (zs.map fl)) :
    Calls Try.prog 18 #[.slice (some ⟨b, off, none⟩) len cap] w (DoubleAns (sumD zs) w) := by
  go_enter Try.func18, Try.ntmps18
  go_wp2
  go_loopw [3, 8] (fun s i wr => ∃ k v m : Nat, k ≤ len ∧ i = .int .i64 k ∧ s = .float .f64 v ∧ FE .f64 v (sumD (zs.take k)) ∧ wr = w.drewN m) (fun _ i _ => len - (intOf i).toNat)
  case atStart => exact ⟨0, 0, 0, by omega, rfl, rfl, FE.refl _ _, rfl⟩
  case round =>
    obtain ⟨k, v, m, hk, rfl, rfl, hv, rfl⟩ := hrel
    by_cases hlt : (k : Int) < (len : Int)
    · have hk' : k < zs.length := by omega
      have hc := holds_map_at hb hk'
      have hst := Lib.hid (fun w1 w2 => sumD_step hk' hv w1 w2)
      clear hv
      generalize zs[k] = u at *
      go_wp2
      go_roundw
      case rel => exact ⟨k + 1, _, _, by omega, by go_num, rfl, hst.out _ _, rfl⟩
      case measure => simp [intOf]; omega
    · obtain rfl : k = len := by omega
      go_wp2
      go_ret
      exact ⟨_, _, rfl, by rw [← hx, List.take_length] at hv; exact hv, rfl⟩
set_option maxHeartbeats 400000 in
theorem sumD_s_none (a : Option Addr) (cap : Nat) (w : World) : Calls Try.prog 18 #[.slice a 0 cap] w (DoubleAns (sumD []) w) := by
  go_enter Try.func18, Try.ntmps18
  go_wp2
  go_loop [3, 8] (fun s i => i = .int .i64 0 ∧ s = .float .f64 0) (fun _ i => 1 - (intOf i).toNat)
  case atStart => exact ⟨rfl, rfl⟩
  case round =>
    obtain ⟨rfl, rfl⟩ := hrel
    go_wp2
    go_ret
    exact ⟨_, 0, rfl, FE.refl _ _, rfl⟩
theorem sumD_s (a : Option Addr) (len cap : Nat) (zs : List Nat) (w : World) (hlen : len ≤ 1048576) (hh : SlAt w a len (zs.map fl)) :
    Calls Try.prog 18 #[.slice a len cap] w (DoubleAns (sumD zs) w) := by
  have hz : zs.length = len := by simpa using hh.1
  by_cases h0 : len = 0
  · subst h0
    obtain rfl : zs = [] := List.eq_nil_of_length_eq_zero hz
    exact sumD_s_none a cap w
  · rcases hh.2 with h | ⟨b, off, rfl, hb⟩
    · exact absurd h h0
    · exact sumD_s_some b off len cap zs w hz hlen hb

set_option maxHeartbeats 400000 in
theorem sumD_i_some (b off len cap : Nat) (zs : List Nat) (w : World) (hx : zs.length = len) (hlen : len ≤ 1048576) (hb : Holds w b off (zs.map fl)) :
    Calls Try.prog 19 #[.slice (some ⟨b, off, none⟩) len cap] w (DoubleAns (sumD zs) w) := by
  go_enter Try.func19, Try.ntmps19
  go_wp2
  go_loopw [3, 8] (fun s i wr => ∃ k v m : Nat, k ≤ len ∧ i = .int .i64 k ∧ s = .float .f64 v ∧ FE .f64 v (sumD (zs.take k)) ∧ wr = w.drewN m) (fun _ i _ => len - (intOf i).toNat)
  case atStart => exact ⟨0, 0, 0, by omega, rfl, rfl, FE.refl _ _, rfl⟩
  case round =>
    obtain ⟨k, v, m, hk, rfl, rfl, hv, rfl⟩ := hrel
    by_cases hlt : (k : Int) < (len : Int)
    · have hk' : k < zs.length := by omega
      have hc := holds_map_at hb hk'
      have hst := Lib.hid (fun w1 w2 => sumD_step hk' hv w1 w2)
      clear hv
      generalize zs[k] = u at *
      go_wp2
      go_roundw
      case rel => exact ⟨k + 1, _, _, by omega, by go_num, rfl, hst.out _ _, rfl⟩
      case measure => simp [intOf]; omega
    · obtain rfl : k = len := by omega
      go_wp2
      go_ret
      exact ⟨_, _, rfl, by rw [← hx, List.take_length] at hv; exact hv, rfl⟩
set_option maxHeartbeats 400000 in
theorem sumD_i_none (a : Option Addr) (cap : Nat) (w : World) : Calls Try.prog 19 #[.slice a 0 cap] w (DoubleAns (sumD []) w) := by
  go_enter Try.func19, Try.ntmps19
  go_wp2
  go_loop [3, 8] (fun s i => i = .int .i64 0 ∧ s = .float .f64 0) (fun _ i => 1 - (intOf i).toNat)
  case atStart => exact ⟨rfl, rfl⟩
  case round =>
    obtain ⟨rfl, rfl⟩ := hrel
    go_wp2
    go_ret
    exact ⟨_, 0, rfl, FE.refl _ _, rfl⟩
theorem sumD_i (a : Option Addr) (len cap : Nat) (zs : List Nat) (w : World) (hlen : len ≤ 1048576) (hh : SlAt w a len (zs.map fl)) :
    Calls Try.prog 19 #[.slice a len cap] w (DoubleAns (sumD zs) w) := by
  have hz : zs.length = len := by simpa using hh.1
  by_cases h0 : len = 0
  · subst h0
    obtain rfl : zs = [] := List.eq_nil_of_length_eq_zero hz
    exact sumD_i_none a cap w
  · rcases hh.2 with h | ⟨b, off, rfl, hb⟩
    · exact absurd h h0
    · exact sumD_i_some b off len cap zs w hz hlen hb
end Go.Proofs.Ytpjplcbcbabbnaa
