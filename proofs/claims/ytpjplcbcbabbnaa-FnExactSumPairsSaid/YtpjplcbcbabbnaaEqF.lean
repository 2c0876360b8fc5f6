/-
  laws.eqFloat32S answers true of two slices that hold the same words.
-/
import Derived.Test.YtpjplcbcbabbnaaToF
import Derived.Test.YtpjplcbcbabbnaaSame
import Derived.Test.YtpjplcbcbabbnaaSub
import Derived.Deep.RegionWith
namespace Go.Proofs.Ytpjplcbcbabbnaa
open Go.RowKit
def YesAns (w : World) (e : Ending) (w' : World) : Prop := ∃ n, e = .returned (.bool true) ∧ w' = w.drewN n
set_option maxHeartbeats 1000000 in
theorem eqFloats_some (b off cb c o cc len : Nat) (xs : List Value) (w : World) (hx : xs.length = len) (hlen : len ≤ 1048576) (hb : Holds w b off xs) (hc : Holds w c o xs) (h1 : ∀ x ∈ xs, ∃ u, x = fl u) :
    Calls Try.prog 13 #[.slice (some ⟨b, off, none⟩) len cb, .slice (some ⟨c, o, none⟩) len cc] w (YesAns w) := by
  go_enter Try.func13, Try.ntmps13
  go_wp2
  go_loopw [5] (fun i wr => ∃ k m : Nat, k ≤ len ∧ i = .int .i64 k ∧ wr = w.drewN m) (fun i _ => len - (intOf i).toNat)
  case atStart => exact ⟨0, 0, by omega, rfl, rfl⟩
  case round =>
    obtain ⟨k, m, hk, rfl, rfl⟩ := hrel
    by_cases hlt : (k : Int) < (len : Int)
    · have hk' : k < xs.length := by omega
      obtain ⟨u, hu⟩ := h1 _ (List.getElem_mem hk')
      have c1 : w.cell? ⟨b, off + k, none⟩ = some (.float .f32 u) := by rw [hb.at hk', hu]; rfl
      have c2 : w.cell? ⟨c, o + k, none⟩ = some (.float .f32 u) := by rw [hc.at hk', hu]; rfl
      clear hu
      go_wp2
      go_region_with ((go_at_call 12; refine (sameFloat_any _ _ _ (wide_both (FE.refl _ _) _ _)).mono ?_; rintro e w' ⟨n, rfl, rfl⟩))
      all_goals
        go_wp2
        go_roundw
        case rel => exact ⟨k + 1, _, by omega, by go_num, rfl⟩
        case measure => simp [intOf]; omega
    · go_wp2
      go_ret
      exact ⟨_, rfl, rfl⟩

set_option maxHeartbeats 400000 in
theorem eqFloats_none (a : Option Addr) (ca : Nat) (b : Option Addr) (cb : Nat) (w : World) :
    Calls Try.prog 13 #[.slice a 0 ca, .slice b 0 cb] w (YesAns w) := by
  go_enter Try.func13, Try.ntmps13
  go_wp2
  go_loop [5] (fun i => i = .int .i64 0) (fun i => 1 - (intOf i).toNat)
  case atStart => exact rfl
  case round =>
    obtain rfl := hrel
    go_wp2
    go_ret
    exact ⟨0, rfl, rfl⟩
theorem eqFloats_any (a : Option Addr) (ca : Nat) (b : Option Addr) (cb len : Nat) (xs : List Value) (w : World) (hlen : len ≤ 1048576) (ha : SlAt w a len xs) (hb : SlAt w b len xs) (h1 : ∀ x ∈ xs, ∃ u, x = fl u) :
    Calls Try.prog 13 #[.slice a len ca, .slice b len cb] w (YesAns w) := by
  by_cases h0 : len = 0
  · subst h0; exact eqFloats_none a ca b cb w
  · rcases ha.2 with h | ⟨b1, o1, rfl, g1⟩
    · exact absurd h h0
    · rcases hb.2 with h | ⟨b2, o2, rfl, g2⟩
      · exact absurd h h0
      · exact eqFloats_some _ _ _ _ _ _ _ xs w ha.1 hlen g1 g2 h1
end Go.Proofs.Ytpjplcbcbabbnaa
