/-
  laws.sameFloat answers true of two words that are the same or both NaN. No condition.
-/
import Derived.Test.YtmfgffgfggkgcaaRows
import Derived.Test.YtmfgffgfggkgcaaFl
import Derived.WalkKit
import Derived.WalkSpells
import Derived.WalkLawsBesides
namespace Go.Proofs.Ytmfgffgfggkgcaa
open Go.RowKit

set_option maxHeartbeats 400000 in
theorem sameFloat_any (a b : Nat) (w : World) (h : FE .f64 a b) :
    Calls Try.prog 49 #[.float .f64 a, .float .f64 b] w fun e w' => ∃ n, e = .returned (.bool true) ∧ w' = w.drewN n := by
  rcases h with rfl | ⟨h1, h2⟩
  · cases hn : isN .f64 a with
    | true =>
      have h1 := order_nan_left (y := a) hn
      clear hn
      go_enter Try.func49, Try.ntmps49
      go_wp2
      go_ret
      exact ⟨0, rfl, rfl⟩
    | false =>
      have h1 := order_self hn
      clear hn
      cases h0 : (FloatKind.f64.format.order a 0 == some .eq) with
      | true =>
        go_enter Try.func49, Try.ntmps49
        go_wp2
        go_ret
        exact ⟨_, by simp, rfl⟩
      | false =>
        go_enter Try.func49, Try.ntmps49
        go_wp2
        go_ret
        exact ⟨0, rfl, rfl⟩
  · have g1 := order_nan_left (y := a) h1
    have g2 := order_nan_left (y := b) h2
    clear h1 h2
    go_enter Try.func49, Try.ntmps49
    go_wp2
    go_ret
    exact ⟨0, rfl, rfl⟩
end Go.Proofs.Ytmfgffgfggkgcaa
