/-
  laws.eqIntS, markIntS, heldIntS.
-/
import Derived.Test.YtolflcjaglgphaaMark
import Derived.Deep.QuietTactic
import Derived.BigQuiet
namespace Go.Proofs.Ytolflcjaglgphaa
open Go.RowKit

/-- n whole numbers from k on. -/
def counts (k n : Nat) : List Value := (List.range n).map fun i => .int .i64 ((k + i : Nat) : Int)
theorem counts_len (k n : Nat) : (counts k n).length = n := by simp [counts]
theorem counts_at {k n i : Nat} (h : i < n) : (counts k n)[i]? = some (.int .i64 ((k + i : Nat) : Int)) := by
  unfold counts
  rw [List.getElem?_map, List.getElem?_range h]; rfl
theorem counts_set {k n : Nat} {xs : List Value} (h : n < xs.length) : (counts k n ++ xs.drop n).set n (.int .i64 ((k + n : Nat) : Int)) = counts k (n + 1) ++ xs.drop (n + 1) := by
  rw [List.set_append_right _ _ (by rw [counts_len]; omega), counts_len, Nat.sub_self]
  rw [List.drop_eq_getElem_cons h]
  show counts k n ++ (_ :: xs.drop (n + 1)) = _
  unfold counts
  rw [List.range_succ, List.map_append, List.append_assoc]; rfl
def AllInts (xs : List Value) : Prop := ∀ x ∈ xs, ∃ z : Int, x = .int .i64 z
set_option maxHeartbeats 1000000 in
theorem eqInts_some (b off cb c o cc len : Nat) (xs : List Value) (w : World) (hx : xs.length = len) (hlen : len ≤ 1048576) (ha : AllInts xs) (hb : Holds w b off xs) (hc : Holds w c o xs) :
    Calls Try.prog 35 #[.slice (some ⟨b, off, none⟩) len cb, .slice (some ⟨c, o, none⟩) len cc] w (YesAns w) := by
  go_enter Try.func35, Try.ntmps35
  go_wp2
  go_loopw [5] (fun i wr => ∃ k m : Nat, k ≤ len ∧ i = .int .i64 k ∧ wr = w.drewN m) (fun i _ => len - (intOf i).toNat)
  case atStart => exact ⟨0, 0, by omega, rfl, rfl⟩
  case round =>
    obtain ⟨k, m, hk, rfl, rfl⟩ := hrel
    by_cases hlt : (k : Int) < (len : Int)
    · have hk' : k < xs.length := by omega
      obtain ⟨z, hz⟩ := ha _ (List.getElem_mem hk')
      have c1 : w.cell? ⟨b, off + k, none⟩ = some (.int .i64 z) := by rw [hb.at hk', hz]
      have c2 : w.cell? ⟨c, o + k, none⟩ = some (.int .i64 z) := by rw [hc.at hk', hz]
      clear hz
      go_wp2_with fail
      go_quiet (fail)
      go_wp2
      go_roundw
      case rel => exact ⟨k + 1, _, by omega, by go_num, rfl⟩
      case measure => simp [intOf]; omega
    · go_wp2
      go_ret
      exact ⟨_, rfl, rfl⟩
set_option maxHeartbeats 400000 in
theorem eqInts_none (a : Option Addr) (ca : Nat) (b : Option Addr) (cb : Nat) (w : World) :
    Calls Try.prog 35 #[.slice a 0 ca, .slice b 0 cb] w (YesAns w) := by
  go_enter Try.func35, Try.ntmps35
  go_wp2
  go_loop [5] (fun i => i = .int .i64 0) (fun i => 1 - (intOf i).toNat)
  case atStart => exact rfl
  case round =>
    obtain rfl := hrel
    go_wp2
    go_ret
    exact ⟨0, rfl, rfl⟩
theorem eqInts_any (a : Option Addr) (ca : Nat) (b : Option Addr) (cb len : Nat) (xs : List Value) (w : World) (hlen : len ≤ 1048576) (hi : AllInts xs) (ha : SlAt w a len xs) (hb : SlAt w b len xs) :
    Calls Try.prog 35 #[.slice a len ca, .slice b len cb] w (YesAns w) := by
  by_cases h0 : len = 0
  · subst h0; exact eqInts_none a ca b cb w
  · rcases ha.2 with h | ⟨b1, o1, rfl, g1⟩
    · exact absurd h h0
    · rcases hb.2 with h | ⟨b2, o2, rfl, g2⟩
      · exact absurd h h0
      · exact eqInts_some _ _ _ _ _ _ _ xs w ha.1 hlen hi g1 g2

set_option maxHeartbeats 1000000 in
theorem markInts_some (base g n cap k : Nat) (xs : List Value) (w : World) (hn : n ≤ 256) (hk : k ≤ 512) (hai : AllInts xs) (ho : w.ownsRow base 3 1 (.slice (some ⟨g, 0, none⟩) n cap) n xs) :
    Calls Try.prog 37 #[.slice (some ⟨g, 0, none⟩) n cap, .int .i64 k] w fun e w' => e = .returned (.int .i64 ((k + n : Nat) : Int)) ∧ w'.ownsRow base 3 1 (.slice (some ⟨g, 0, none⟩) n cap) n (counts k n) ∧ w.grownBy w' (some g) := by
  have hxl : xs.length = n := by have := ho.1; simpa using this
  go_enter Try.func37, Try.ntmps37
  go_wp2
  go_loopw [1, 5] (fun q i wr => ∃ j : Nat, j ≤ n ∧ i = .int .i64 j ∧ q = .int .i64 ((k + j : Nat) : Int) ∧ wr.ownsRow base 3 1 (.slice (some ⟨g, 0, none⟩) n cap) n (counts k j ++ xs.drop j) ∧ w.grownBy wr (some g)) (fun _ i _ => n - (intOf i).toNat)
  case atStart => exact ⟨0, by omega, rfl, rfl, by simpa [counts] using ho, ⟨rfl, rfl, rfl, Nat.le_refl _, fun _ _ _ => rfl⟩⟩
  case round =>
    obtain ⟨j, hj, rfl, rfl, hown, hgr⟩ := hrel
    by_cases hlt : (j : Int) < (n : Int)
    · have hj' : j < xs.length := by omega
      obtain ⟨z, hz⟩ := hai _ (List.getElem_mem hj')
      have hz : wr.cell? ⟨g, j, none⟩ = some (.int .i64 z) := by
        rw [hown.cellAt j (by omega), List.getElem?_append_right (by rw [counts_len]; omega), counts_len, Nat.sub_self, List.getElem?_drop, Nat.add_zero, List.getElem?_eq_getElem hj', hz]
      have hs := hown.stored j (.int .i64 ((k + j : Nat) : Int))
      rw [counts_set hj'] at hs
      have hf := hown.frozenAt j
      have HS := Lib.hid (show _ ∧ _ from ⟨hs, hgr⟩)
      clear hs hown hgr
      go_wp2
      go_roundw
      case rel => exact ⟨j + 1, by omega, by go_num, by go_num, HS.out.1.1, by
        have h := HS.out.1.2
        exact ⟨h.os.trans HS.out.2.os, h.tape.trans HS.out.2.tape, h.output.trans HS.out.2.output, Nat.le_trans HS.out.2.size h.size, fun i hi hne => (h.block i (Nat.lt_of_lt_of_le hi HS.out.2.size) hne).trans (HS.out.2.block i hi hne)⟩⟩
      case measure => simp [intOf]; omega
    · obtain rfl : j = n := by omega
      go_wp2
      go_ret
      exact ⟨rfl, by rwa [List.drop_eq_nil_of_le (by omega), List.append_nil] at hown, hgr⟩
set_option maxHeartbeats 400000 in
theorem markInts_none (a : Option Addr) (cap : Nat) (k : Nat) (w : World) :
    Calls Try.prog 37 #[.slice a 0 cap, .int .i64 k] w fun e w' => e = .returned (.int .i64 k) ∧ w' = w := by
  go_enter Try.func37, Try.ntmps37
  go_wp2
  go_loop [1, 5] (fun q i => i = .int .i64 0 ∧ q = .int .i64 k) (fun _ i => 1 - (intOf i).toNat)
  case atStart => exact ⟨rfl, rfl⟩
  case round =>
    obtain ⟨rfl, rfl⟩ := hrel
    go_wp2
    go_ret
    exact ⟨rfl, rfl⟩
set_option maxHeartbeats 1000000 in
theorem heldInts_some (b n cap k : Nat) (w : World) (hn : n ≤ 256) (hk : k ≤ 512) (hb : Holds w b 0 (counts k n)) :
    Calls Try.prog 39 #[.slice (some ⟨b, 0, none⟩) n cap, .int .i64 k] w fun e w' => e = .returned (.int .i64 ((k + n : Nat) : Int)) ∧ ∃ m, w' = w.drewN m := by
  go_enter Try.func39, Try.ntmps39
  go_wp2
  go_loopw [1, 5] (fun q i wr => ∃ j m : Nat, j ≤ n ∧ i = .int .i64 j ∧ q = .int .i64 ((k + j : Nat) : Int) ∧ wr = w.drewN m) (fun _ i _ => n - (intOf i).toNat)
  case atStart => exact ⟨0, 0, by omega, rfl, rfl, rfl⟩
  case round =>
    obtain ⟨j, m, hj, rfl, rfl, rfl⟩ := hrel
    by_cases hlt : (j : Int) < (n : Int)
    · have hj' : j < n := by omega
      have hz : w.cell? ⟨b, j, none⟩ = some (.int .i64 ((k + j : Nat) : Int)) := by
        have := hb j (by rw [counts_len]; exact hj')
        rw [counts_at hj', Nat.zero_add] at this
        exact this
      go_wp2
      go_roundw
      case rel => exact ⟨j + 1, _, by omega, by go_num, by go_num, rfl⟩
      case measure => simp [intOf]; omega
    · obtain rfl : j = n := by omega
      go_wp2
      go_ret
      exact ⟨rfl, _, rfl⟩
set_option maxHeartbeats 400000 in
theorem heldInts_none (a : Option Addr) (cap : Nat) (k : Nat) (w : World) :
    Calls Try.prog 39 #[.slice a 0 cap, .int .i64 k] w fun e w' => e = .returned (.int .i64 k) ∧ w' = w := by
  go_enter Try.func39, Try.ntmps39
  go_wp2
  go_loop [1, 5] (fun q i => i = .int .i64 0 ∧ q = .int .i64 k) (fun _ i => 1 - (intOf i).toNat)
  case atStart => exact ⟨rfl, rfl⟩
  case round =>
    obtain ⟨rfl, rfl⟩ := hrel
    go_wp2
    go_ret
    exact ⟨rfl, rfl⟩
end Go.Proofs.Ytolflcjaglgphaa
