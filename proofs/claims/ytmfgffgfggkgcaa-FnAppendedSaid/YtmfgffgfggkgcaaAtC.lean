/-
  A row of bytes that came in, as a draw.
-/
import Derived.Test.YtmfgffgfggkgcaaMakeC
namespace Go.Proofs.Ytmfgffgfggkgcaa
open Go.RowKit
theorem code_of_row {w : World} {a : Option Addr} {len cap : Nat} {zs : List Int} (h : IsRow w a len cap zs) (hl : len ≤ 1048576) : ∃ xs, CodeAt w a len xs := by
  rcases h with ⟨rfl, rfl, rfl, rfl⟩ | ⟨x, rfl, h1, h2, h3, h4, h5⟩
  · exact ⟨[], ⟨rfl, .inl rfl⟩, (fun x hx => by cases hx), by omega⟩
  · refine ⟨(zs.take len).map (Value.int .u8), ⟨by simp; omega, ?_⟩, ?_, by omega⟩
    · by_cases h0 : len = 0
      · exact .inl h0
      · obtain ⟨b, off, spot⟩ := x
        have hc := h4 0 (by omega)
        have hs : spot = none := by simpa [Addr.add] using World.cell?_spot hc
        subst hs
        refine .inr ⟨b, off, rfl, fun i hi => ?_⟩
        have hi' : i < len := by simp at hi; omega
        have := h4 i (by omega)
        have ha : (⟨b, off, none⟩ : Addr).add i = ⟨b, off + i, none⟩ := by unfold Addr.add; split <;> simp_all
        rw [ha] at this
        rw [this, List.getElem?_map, List.getElem?_take, if_pos hi', List.getD_eq_getElem?_getD, List.getElem?_eq_getElem (by omega)]
        rfl
    · intro y hy
      obtain ⟨n, hn, rfl⟩ := List.mem_map.1 hy
      have hw := h5 n (List.mem_of_mem_take hn)
      simp [Lit.wf, IntKind.min, IntKind.max, IntKind.signed, IntKind.bits] at hw
      exact ⟨n.toNat, by omega, by unfold byteV; rw [Int.toNat_of_nonneg hw.1]⟩
end Go.Proofs.Ytmfgffgfggkgcaa
