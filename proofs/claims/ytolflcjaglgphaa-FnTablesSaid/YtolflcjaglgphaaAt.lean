/-
  laws.at: a byte of a draw, or a number below 256 that follows from it.
-/
import Derived.Test.YtolflcjaglgphaaMake
namespace Go.Proofs.Ytolflcjaglgphaa
open Go.RowKit
theorem code_of_row {w : World} {a : Option Addr} {len cap : Nat} {zs : List Int} (h : IsRow w a len cap zs) (hl : len ≤ 1048576) : ∃ xs, CodeAt w a len xs := by
  rcases h with ⟨rfl, rfl, rfl, rfl⟩ | ⟨x, rfl, h1, h2, h3, h4, h5⟩
  · exact ⟨[], ⟨rfl, .inl rfl⟩, (fun x hx => by cases hx), by omega⟩
  · refine ⟨(zs.take len).map (Value.int .u8), ⟨by simp; omega, ?_⟩, ?_, by omega⟩
    · by_cases h0 : len = 0
      · exact .inl h0
      · obtain ⟨b, off, spot⟩ := x
        have hc := h4 0 (by omega)
        have hs : spot = none := by simpa [Addr.add] using World.cell?_spot hc
        subst hs
        refine .inr ⟨b, off, rfl, fun i hi => ?_⟩
        have hi' : i < len := by simp at hi; omega
        have := h4 i (by omega)
        have ha : (⟨b, off, none⟩ : Addr).add i = ⟨b, off + i, none⟩ := by unfold Addr.add; split <;> simp_all
        rw [ha] at this
        rw [this, List.getElem?_map, List.getElem?_take, if_pos hi', List.getD_eq_getElem?_getD, List.getElem?_eq_getElem (by omega)]
        rfl
    · intro y hy
      obtain ⟨n, hn, rfl⟩ := List.mem_map.1 hy
      have hw := h5 n (List.mem_of_mem_take hn)
      simp [Lit.wf, IntKind.min, IntKind.max, IntKind.signed, IntKind.bits] at hw
      exact ⟨n.toNat, by omega, by unfold byteV; rw [Int.toNat_of_nonneg hw.1]⟩
def AtAns (w : World) (e : Ending) (w' : World) : Prop := ∃ x : Nat, e = .returned (.int .i64 x) ∧ x < 256 ∧ w' = w
set_option maxHeartbeats 400000 in
theorem at_any (a : Option Addr) (len cap : Nat) (xs : List Value) (i : Nat) (w : World) (hx : CodeAt w a len xs) (hl : len ≤ 1048576) (hi : i ≤ 1048576) : Calls Try.prog 15 #[.slice a len cap, .int .i64 i] w (AtAns w) := by
  by_cases hlt : i < len
  · rcases hx.1.2 with h | ⟨b, off, rfl, hh⟩
    · omega
    · obtain ⟨u, hu, hxu⟩ := IsBytes_lt hx.2.1 (i := i) (by rw [hx.1.1]; exact hlt)
      have hcx : w.cell? ⟨b, off + i, none⟩ = some (.int .u8 u) := by rw [hh.at (by rw [hx.1.1]; exact hlt), hxu]; rfl
      have hlt' : (i : Int) < (len : Int) := by omega
      clear hx hxu hh
      go_enter Try.func15, Try.ntmps15
      go_wp2_with fail
      go_ret
      exact ⟨u, rfl, hu, rfl⟩
  · have hlt' : ¬ (i : Int) < (len : Int) := by omega
    clear hx
    go_enter Try.func15, Try.ntmps15
    go_wp2_with fail
    go_ret
    exact ⟨(((i : Int) * 37 + (len : Int) * 11) % 256).toNat, ret_int (Int.toNat_of_nonneg (Int.emod_nonneg _ (by decide))).symm, by omega, rfl⟩
end Go.Proofs.Ytolflcjaglgphaa
