/-
  laws.at: a byte of a draw, or a number below 256 that follows from it.
-/
import Derived.Test.YtmfgffgfggkgcaaAtC
namespace Go.Proofs.Ytmfgffgfggkgcaa
open Go.RowKit
def AtAns (w : World) (e : Ending) (w' : World) : Prop := ∃ x : Nat, e = .returned (.int .i64 x) ∧ x < 256 ∧ w' = w
set_option maxHeartbeats 400000 in
theorem at_any (a : Option Addr) (len cap : Nat) (xs : List Value) (i : Nat) (w : World) (hx : CodeAt w a len xs) (hl : len ≤ 1048576) (hi : i ≤ 1048576) : Calls Try.prog 11 #[.slice a len cap, .int .i64 i] w (AtAns w) := by
  by_cases hlt : i < len
  · rcases hx.1.2 with h | ⟨b, off, rfl, hh⟩
    · omega
    · obtain ⟨u, hu, hxu⟩ := IsBytes_lt hx.2.1 (i := i) (by rw [hx.1.1]; exact hlt)
      have hcx : w.cell? ⟨b, off + i, none⟩ = some (.int .u8 u) := by rw [hh.at (by rw [hx.1.1]; exact hlt), hxu]; rfl
      have hlt' : (i : Int) < (len : Int) := by omega
      clear hx hxu hh
      go_enter Try.func11, Try.ntmps11
      go_wp2_with fail
      go_ret
      exact ⟨u, rfl, hu, rfl⟩
  · have hlt' : ¬ (i : Int) < (len : Int) := by omega
    clear hx
    go_enter Try.func11, Try.ntmps11
    go_wp2_with fail
    go_ret
    exact ⟨(((i : Int) * 37 + (len : Int) * 11) % 256).toNat, ret_int (Int.toNat_of_nonneg (Int.emod_nonneg _ (by decide))).symm, by omega, rfl⟩
end Go.Proofs.Ytmfgffgfggkgcaa
