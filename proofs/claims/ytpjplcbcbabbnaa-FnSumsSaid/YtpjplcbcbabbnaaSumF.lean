/-
  SumForward, SumSteady, SumDouble of the program and of the reference: the same plain sums of the words, up to NaN. A slice of at most 2^20 words.
-/
import Derived.Test.YtpjplcbcbabbnaaToF
import Derived.Test.YtpjplcbcbabbnaaSub
namespace Go.Proofs.Ytpjplcbcbabbnaa
open Go.RowKit

theorem take_map {zs : List Nat} {k : Nat} (hk : k < zs.length) : zs.take (k + 1) = zs.take k ++ [zs[k]] := List.take_succ_eq_append_getElem hk
theorem holds_map_at {w : World} {b off : Nat} {zs : List Nat} (h : Holds w b off (zs.map fl)) {k : Nat} (hk : k < zs.length) : w.cell? ⟨b, off + k, none⟩ = some (.float .f32 zs[k]) := by
  rw [h.at (by simpa using hk), List.getElem_map]; rfl

def sumF (zs : List Nat) : Nat := zs.foldl (fun s x => fop .add .f32 s x) 0
theorem sumF_snoc (zs : List Nat) (x : Nat) : sumF (zs ++ [x]) = fop .add .f32 (sumF zs) x := by simp [sumF]
theorem sumF_step {zs : List Nat} {k v : Nat} (hk : k < zs.length) (h : FE .f32 v (sumF (zs.take k))) (w : World) : FE .f32 (fval .add .f32 v zs[k] w) (sumF (zs.take (k + 1))) := by
  rw [take_map hk, sumF_snoc]; exact fval_FE h (FE.refl _ _) w
def SumAns (r : Nat) (w : World) (e : Ending) (w' : World) : Prop := ∃ v n, e = .returned (.float .f32 v) ∧ FE .f32 v r ∧ w' = w.drewN n

set_option maxHeartbeats 400000 in
theorem sumF_s_some (b off len cap : Nat) (zs : List Nat) (w : World) (hx : zs.length = len) (hlen : len ≤ 1048576) (hb : Holds w b off (zs.map fl)) :
    Calls Try.prog 9 #[.slice (some ⟨b, off, none⟩) len cap] w (SumAns (sumF zs) w) := by
  go_enter Try.func9, Try.ntmps9
  go_wp2
  go_loopw [3, 8] (fun s i wr => ∃ k v m : Nat, k ≤ len ∧ i = .int .i64 k ∧ s = .float .f32 v ∧ FE .f32 v (sumF (zs.take k)) ∧ wr = w.drewN m) (fun _ i _ => len - (intOf i).toNat)
  case atStart => exact ⟨0, 0, 0, by omega, rfl, rfl, FE.refl _ _, rfl⟩
  case round =>
    obtain ⟨k, v, m, hk, rfl, rfl, hv, rfl⟩ := hrel
    by_cases hlt : (k : Int) < (len : Int)
    · have hk' : k < zs.length := by omega
      have hc := holds_map_at hb hk'
      have hst := Lib.hid (fun w => sumF_step hk' hv w)
      clear hv
      generalize zs[k] = u at *
      go_wp2
      go_roundw
      case rel => exact ⟨k + 1, _, _, by omega, by go_num, rfl, hst.out _, rfl⟩
      case measure => simp [intOf]; omega
    · obtain rfl : k = len := by omega
      go_wp2
      go_ret
      exact ⟨_, _, rfl, by rw [← hx, List.take_length] at hv; exact hv, rfl⟩
set_option maxHeartbeats 400000 in
theorem sumF_s_none (a : Option Addr) (cap : Nat) (w : World) : Calls Try.prog 9 #[.slice a 0 cap] w (SumAns (sumF []) w) := by
  go_enter Try.func9, Try.ntmps9
  go_wp2
  go_loop [3, 8] (fun s i => i = .int .i64 0 ∧ s = .float .f32 0) (fun _ i => 1 - (intOf i).toNat)
  case atStart => exact ⟨rfl, rfl⟩
  case round =>
    obtain ⟨rfl, rfl⟩ := hrel
    go_wp2
    go_ret
    exact ⟨_, 0, rfl, FE.refl _ _, rfl⟩
theorem sumF_s (a : Option Addr) (len cap : Nat) (zs : List Nat) (w : World) (hlen : len ≤ 1048576) (hh : SlAt w a len (zs.map fl)) :
    Calls Try.prog 9 #[.slice a len cap] w (SumAns (sumF zs) w) := by
  have hz : zs.length = len := by simpa using hh.1
  by_cases h0 : len = 0
  · subst h0
    obtain rfl : zs = [] := List.eq_nil_of_length_eq_zero hz
    exact sumF_s_none a cap w
  · rcases hh.2 with h | ⟨b, off, rfl, hb⟩
    · exact absurd h h0
    · exact sumF_s_some b off len cap zs w hz hlen hb

set_option maxHeartbeats 400000 in
theorem sumF_i_some (b off len cap : Nat) (zs : List Nat) (w : World) (hx : zs.length = len) (hlen : len ≤ 1048576) (hb : Holds w b off (zs.map fl)) :
    Calls Try.prog 11 #[.slice (some ⟨b, off, none⟩) len cap] w (SumAns (sumF zs) w) := by
  go_enter Try.func11, Try.ntmps11
  go_wp2
  go_loopw [3, 8] (fun s i wr => ∃ k v m : Nat, k ≤ len ∧ i = .int .i64 k ∧ s = .float .f32 v ∧ FE .f32 v (sumF (zs.take k)) ∧ wr = w.drewN m) (fun _ i _ => len - (intOf i).toNat)
  case atStart => exact ⟨0, 0, 0, by omega, rfl, rfl, FE.refl _ _, rfl⟩
  case round =>
    obtain ⟨k, v, m, hk, rfl, rfl, hv, rfl⟩ := hrel
    by_cases hlt : (k : Int) < (len : Int)
    · have hk' : k < zs.length := by omega
      have hc := holds_map_at hb hk'
      have hst := Lib.hid (fun w => sumF_step hk' hv w)
      clear hv
      generalize zs[k] = u at *
      go_wp2
      go_roundw
      case rel => exact ⟨k + 1, _, _, by omega, by go_num, rfl, hst.out _, rfl⟩
      case measure => simp [intOf]; omega
    · obtain rfl : k = len := by omega
      go_wp2
      go_ret
      exact ⟨_, _, rfl, by rw [← hx, List.take_length] at hv; exact hv, rfl⟩
set_option maxHeartbeats 400000 in
theorem sumF_i_none (a : Option Addr) (cap : Nat) (w : World) : Calls Try.prog 11 #[.slice a 0 cap] w (SumAns (sumF []) w) := by
  go_enter Try.func11, Try.ntmps11
  go_wp2
  go_loop [3, 8] (fun s i => i = .int .i64 0 ∧ s = .float .f32 0) (fun _ i => 1 - (intOf i).toNat)
  case atStart => exact ⟨rfl, rfl⟩
  case round =>
    obtain ⟨rfl, rfl⟩ := hrel
    go_wp2
    go_ret
    exact ⟨_, 0, rfl, FE.refl _ _, rfl⟩
theorem sumF_i (a : Option Addr) (len cap : Nat) (zs : List Nat) (w : World) (hlen : len ≤ 1048576) (hh : SlAt w a len (zs.map fl)) :
    Calls Try.prog 11 #[.slice a len cap] w (SumAns (sumF zs) w) := by
  have hz : zs.length = len := by simpa using hh.1
  by_cases h0 : len = 0
  · subst h0
    obtain rfl : zs = [] := List.eq_nil_of_length_eq_zero hz
    exact sumF_i_none a cap w
  · rcases hh.2 with h | ⟨b, off, rfl, hb⟩
    · exact absurd h h0
    · exact sumF_i_some b off len cap zs w hz hlen hb
end Go.Proofs.Ytpjplcbcbabbnaa
