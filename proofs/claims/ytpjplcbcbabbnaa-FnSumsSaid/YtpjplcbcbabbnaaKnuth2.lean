/-
  What a sum of two numbers loses is told exactly, for a third of a small integer and a multiple of 1024: the whole numbers. No program in sight.
-/
import Derived.Test.YtpjplcbcbabbnaaKnuth
namespace Go.Proofs.Ytpjplcbcbabbnaa
open Go

theorem rI_near' {n : Int} (k : Nat) {P : Int} (hP : ((2 ^ k : Nat) : Int) = P) (hk : 1 ≤ k) (h1 : 8388608 * P ≤ (n.natAbs : Int)) (h2 : (n.natAbs : Int) < 16777216 * P) :
    ∃ q : Int, rI n = q * P ∧ 2 * (rI n - n) ≤ P ∧ -P ≤ 2 * (rI n - n) := by
  subst hP
  refine rI_near ?_ ?_ hk
  · rw [Nat.pow_add]; show 2 ^ k * 8388608 ≤ _; omega
  · rw [Nat.pow_add]; show _ < 2 ^ k * 16777216; omega
/-- Each step of the sum of Y and X, and of what it loses. -/
def TwoOk (X Y : Int) : Prop := ∃ S V : Int, rI (Y + X) = S ∧ rI (S - Y) = V ∧ -1125899906842624 ≤ S ∧ S ≤ 1125899906842624 ∧ -1125899906842624 ≤ V ∧ V ≤ 1125899906842624 ∧
  rI (S - V) = S - V ∧ rI (Y - (S - V)) = Y - (S - V) ∧ rI (X - V) = X - V ∧ rI (Y - (S - V) + (X - V)) = Y - (S - V) + (X - V)

theorem two_11 {m Y : Int} (hm1 : -1000 ≤ m) (hm2 : m ≤ 1000) (hY1 : -11207180288 ≤ Y) (hY2 : Y ≤ 11207180288)
    (h1 : 17179869184 ≤ ((Y + m * 34359738368).natAbs : Int)) (h2 : ((Y + m * 34359738368).natAbs : Int) < 34359738368) : TwoOk (m * 34359738368) Y := by
  obtain ⟨q, e1, b1, b2⟩ := rI_near' (n := Y + m * 34359738368) 11 (P := 2048) rfl (by decide) (by omega) (by omega)
  generalize hS : rI (Y + m * 34359738368) = S at *
  have h3 : ((S - Y).natAbs : Int) < 17179869184 ∨ (17179869184 ≤ ((S - Y).natAbs : Int) ∧ ((S - Y).natAbs : Int) < 34359738368) ∨ 34359738368 ≤ ((S - Y).natAbs : Int) := by omega
  rcases h3 with h3 | h3 | h3
  · obtain ⟨r, e2, c1, c2⟩ := rI_near' (n := S - Y) 10 (P := 1024) rfl (by decide) (by omega) (by omega)
    generalize hV : rI (S - Y) = V at *
    clear h1 h2
    exact ⟨S, V, hS, hV, by omega, by omega, by omega, by omega, rI_exact (i := 10) (c := q * 2 - r) (by show _ = _ * (1024 : Int); omega) (by omega) (by omega), rI_small (by omega) (by omega), rI_small (by omega) (by omega), rI_small (by omega) (by omega)⟩
  · obtain ⟨r, e2, c1, c2⟩ := rI_near' (n := S - Y) 11 (P := 2048) rfl (by decide) (by omega) (by omega)
    generalize hV : rI (S - Y) = V at *
    clear h1 h2
    exact ⟨S, V, hS, hV, by omega, by omega, by omega, by omega, rI_exact (i := 10) (c := q * 2 - r * 2) (by show _ = _ * (1024 : Int); omega) (by omega) (by omega), rI_small (by omega) (by omega), rI_small (by omega) (by omega), rI_small (by omega) (by omega)⟩
  · obtain ⟨r, e2, c1, c2⟩ := rI_near' (n := S - Y) 12 (P := 4096) rfl (by decide) (by omega) (by omega)
    generalize hV : rI (S - Y) = V at *
    clear h1 h2
    exact ⟨S, V, hS, hV, by omega, by omega, by omega, by omega, rI_exact (i := 10) (c := q * 2 - r * 4) (by show _ = _ * (1024 : Int); omega) (by omega) (by omega), rI_small (by omega) (by omega), rI_small (by omega) (by omega), rI_small (by omega) (by omega)⟩
theorem two_12 {m Y : Int} (hm1 : -1000 ≤ m) (hm2 : m ≤ 1000) (hY1 : -11207180288 ≤ Y) (hY2 : Y ≤ 11207180288)
    (h1 : 34359738368 ≤ ((Y + m * 34359738368).natAbs : Int)) (h2 : ((Y + m * 34359738368).natAbs : Int) < 68719476736) : TwoOk (m * 34359738368) Y := by
  obtain ⟨q, e1, b1, b2⟩ := rI_near' (n := Y + m * 34359738368) 12 (P := 4096) rfl (by decide) (by omega) (by omega)
  generalize hS : rI (Y + m * 34359738368) = S at *
  have h3 : ((S - Y).natAbs : Int) < 34359738368 ∨ (34359738368 ≤ ((S - Y).natAbs : Int) ∧ ((S - Y).natAbs : Int) < 68719476736) ∨ 68719476736 ≤ ((S - Y).natAbs : Int) := by omega
  rcases h3 with h3 | h3 | h3
  · obtain ⟨r, e2, c1, c2⟩ := rI_near' (n := S - Y) 11 (P := 2048) rfl (by decide) (by omega) (by omega)
    generalize hV : rI (S - Y) = V at *
    clear h1 h2
    exact ⟨S, V, hS, hV, by omega, by omega, by omega, by omega, rI_exact (i := 11) (c := q * 2 - r) (by show _ = _ * (2048 : Int); omega) (by omega) (by omega), rI_small (by omega) (by omega), rI_small (by omega) (by omega), rI_small (by omega) (by omega)⟩
  · obtain ⟨r, e2, c1, c2⟩ := rI_near' (n := S - Y) 12 (P := 4096) rfl (by decide) (by omega) (by omega)
    generalize hV : rI (S - Y) = V at *
    clear h1 h2
    exact ⟨S, V, hS, hV, by omega, by omega, by omega, by omega, rI_exact (i := 11) (c := q * 2 - r * 2) (by show _ = _ * (2048 : Int); omega) (by omega) (by omega), rI_small (by omega) (by omega), rI_small (by omega) (by omega), rI_small (by omega) (by omega)⟩
  · obtain ⟨r, e2, c1, c2⟩ := rI_near' (n := S - Y) 13 (P := 8192) rfl (by decide) (by omega) (by omega)
    generalize hV : rI (S - Y) = V at *
    clear h1 h2
    exact ⟨S, V, hS, hV, by omega, by omega, by omega, by omega, rI_exact (i := 11) (c := q * 2 - r * 4) (by show _ = _ * (2048 : Int); omega) (by omega) (by omega), rI_small (by omega) (by omega), rI_small (by omega) (by omega), rI_small (by omega) (by omega)⟩
theorem two_13 {m Y : Int} (hm1 : -1000 ≤ m) (hm2 : m ≤ 1000) (hY1 : -11207180288 ≤ Y) (hY2 : Y ≤ 11207180288)
    (h1 : 68719476736 ≤ ((Y + m * 34359738368).natAbs : Int)) (h2 : ((Y + m * 34359738368).natAbs : Int) < 137438953472) : TwoOk (m * 34359738368) Y := by
  obtain ⟨q, e1, b1, b2⟩ := rI_near' (n := Y + m * 34359738368) 13 (P := 8192) rfl (by decide) (by omega) (by omega)
  generalize hS : rI (Y + m * 34359738368) = S at *
  have h3 : ((S - Y).natAbs : Int) < 68719476736 ∨ (68719476736 ≤ ((S - Y).natAbs : Int) ∧ ((S - Y).natAbs : Int) < 137438953472) ∨ 137438953472 ≤ ((S - Y).natAbs : Int) := by omega
  rcases h3 with h3 | h3 | h3
  · obtain ⟨r, e2, c1, c2⟩ := rI_near' (n := S - Y) 12 (P := 4096) rfl (by decide) (by omega) (by omega)
    generalize hV : rI (S - Y) = V at *
    clear h1 h2
    exact ⟨S, V, hS, hV, by omega, by omega, by omega, by omega, rI_exact (i := 12) (c := q * 2 - r) (by show _ = _ * (4096 : Int); omega) (by omega) (by omega), rI_small (by omega) (by omega), rI_small (by omega) (by omega), rI_small (by omega) (by omega)⟩
  · obtain ⟨r, e2, c1, c2⟩ := rI_near' (n := S - Y) 13 (P := 8192) rfl (by decide) (by omega) (by omega)
    generalize hV : rI (S - Y) = V at *
    clear h1 h2
    exact ⟨S, V, hS, hV, by omega, by omega, by omega, by omega, rI_exact (i := 12) (c := q * 2 - r * 2) (by show _ = _ * (4096 : Int); omega) (by omega) (by omega), rI_small (by omega) (by omega), rI_small (by omega) (by omega), rI_small (by omega) (by omega)⟩
  · obtain ⟨r, e2, c1, c2⟩ := rI_near' (n := S - Y) 14 (P := 16384) rfl (by decide) (by omega) (by omega)
    generalize hV : rI (S - Y) = V at *
    clear h1 h2
    exact ⟨S, V, hS, hV, by omega, by omega, by omega, by omega, rI_exact (i := 12) (c := q * 2 - r * 4) (by show _ = _ * (4096 : Int); omega) (by omega) (by omega), rI_small (by omega) (by omega), rI_small (by omega) (by omega), rI_small (by omega) (by omega)⟩
theorem two_14 {m Y : Int} (hm1 : -1000 ≤ m) (hm2 : m ≤ 1000) (hY1 : -11207180288 ≤ Y) (hY2 : Y ≤ 11207180288)
    (h1 : 137438953472 ≤ ((Y + m * 34359738368).natAbs : Int)) (h2 : ((Y + m * 34359738368).natAbs : Int) < 274877906944) : TwoOk (m * 34359738368) Y := by
  obtain ⟨q, e1, b1, b2⟩ := rI_near' (n := Y + m * 34359738368) 14 (P := 16384) rfl (by decide) (by omega) (by omega)
  generalize hS : rI (Y + m * 34359738368) = S at *
  have h3 : ((S - Y).natAbs : Int) < 137438953472 ∨ (137438953472 ≤ ((S - Y).natAbs : Int) ∧ ((S - Y).natAbs : Int) < 274877906944) ∨ 274877906944 ≤ ((S - Y).natAbs : Int) := by omega
  rcases h3 with h3 | h3 | h3
  · obtain ⟨r, e2, c1, c2⟩ := rI_near' (n := S - Y) 13 (P := 8192) rfl (by decide) (by omega) (by omega)
    generalize hV : rI (S - Y) = V at *
    clear h1 h2
    exact ⟨S, V, hS, hV, by omega, by omega, by omega, by omega, rI_exact (i := 13) (c := q * 2 - r) (by show _ = _ * (8192 : Int); omega) (by omega) (by omega), rI_small (by omega) (by omega), rI_small (by omega) (by omega), rI_small (by omega) (by omega)⟩
  · obtain ⟨r, e2, c1, c2⟩ := rI_near' (n := S - Y) 14 (P := 16384) rfl (by decide) (by omega) (by omega)
    generalize hV : rI (S - Y) = V at *
    clear h1 h2
    exact ⟨S, V, hS, hV, by omega, by omega, by omega, by omega, rI_exact (i := 13) (c := q * 2 - r * 2) (by show _ = _ * (8192 : Int); omega) (by omega) (by omega), rI_small (by omega) (by omega), rI_small (by omega) (by omega), rI_small (by omega) (by omega)⟩
  · obtain ⟨r, e2, c1, c2⟩ := rI_near' (n := S - Y) 15 (P := 32768) rfl (by decide) (by omega) (by omega)
    generalize hV : rI (S - Y) = V at *
    clear h1 h2
    exact ⟨S, V, hS, hV, by omega, by omega, by omega, by omega, rI_exact (i := 13) (c := q * 2 - r * 4) (by show _ = _ * (8192 : Int); omega) (by omega) (by omega), rI_small (by omega) (by omega), rI_small (by omega) (by omega), rI_small (by omega) (by omega)⟩
theorem two_15 {m Y : Int} (hm1 : -1000 ≤ m) (hm2 : m ≤ 1000) (hY1 : -11207180288 ≤ Y) (hY2 : Y ≤ 11207180288)
    (h1 : 274877906944 ≤ ((Y + m * 34359738368).natAbs : Int)) (h2 : ((Y + m * 34359738368).natAbs : Int) < 549755813888) : TwoOk (m * 34359738368) Y := by
  obtain ⟨q, e1, b1, b2⟩ := rI_near' (n := Y + m * 34359738368) 15 (P := 32768) rfl (by decide) (by omega) (by omega)
  generalize hS : rI (Y + m * 34359738368) = S at *
  have h3 : ((S - Y).natAbs : Int) < 274877906944 ∨ (274877906944 ≤ ((S - Y).natAbs : Int) ∧ ((S - Y).natAbs : Int) < 549755813888) ∨ 549755813888 ≤ ((S - Y).natAbs : Int) := by omega
  rcases h3 with h3 | h3 | h3
  · obtain ⟨r, e2, c1, c2⟩ := rI_near' (n := S - Y) 14 (P := 16384) rfl (by decide) (by omega) (by omega)
    generalize hV : rI (S - Y) = V at *
    clear h1 h2
    exact ⟨S, V, hS, hV, by omega, by omega, by omega, by omega, rI_exact (i := 14) (c := q * 2 - r) (by show _ = _ * (16384 : Int); omega) (by omega) (by omega), rI_small (by omega) (by omega), rI_small (by omega) (by omega), rI_small (by omega) (by omega)⟩
  · obtain ⟨r, e2, c1, c2⟩ := rI_near' (n := S - Y) 15 (P := 32768) rfl (by decide) (by omega) (by omega)
    generalize hV : rI (S - Y) = V at *
    clear h1 h2
    exact ⟨S, V, hS, hV, by omega, by omega, by omega, by omega, rI_exact (i := 14) (c := q * 2 - r * 2) (by show _ = _ * (16384 : Int); omega) (by omega) (by omega), rI_small (by omega) (by omega), rI_small (by omega) (by omega), rI_small (by omega) (by omega)⟩
  · obtain ⟨r, e2, c1, c2⟩ := rI_near' (n := S - Y) 16 (P := 65536) rfl (by decide) (by omega) (by omega)
    generalize hV : rI (S - Y) = V at *
    clear h1 h2
    exact ⟨S, V, hS, hV, by omega, by omega, by omega, by omega, rI_exact (i := 14) (c := q * 2 - r * 4) (by show _ = _ * (16384 : Int); omega) (by omega) (by omega), rI_small (by omega) (by omega), rI_small (by omega) (by omega), rI_small (by omega) (by omega)⟩
theorem two_16 {m Y : Int} (hm1 : -1000 ≤ m) (hm2 : m ≤ 1000) (hY1 : -11207180288 ≤ Y) (hY2 : Y ≤ 11207180288)
    (h1 : 549755813888 ≤ ((Y + m * 34359738368).natAbs : Int)) (h2 : ((Y + m * 34359738368).natAbs : Int) < 1099511627776) : TwoOk (m * 34359738368) Y := by
  obtain ⟨q, e1, b1, b2⟩ := rI_near' (n := Y + m * 34359738368) 16 (P := 65536) rfl (by decide) (by omega) (by omega)
  generalize hS : rI (Y + m * 34359738368) = S at *
  have h3 : ((S - Y).natAbs : Int) < 549755813888 ∨ (549755813888 ≤ ((S - Y).natAbs : Int) ∧ ((S - Y).natAbs : Int) < 1099511627776) ∨ 1099511627776 ≤ ((S - Y).natAbs : Int) := by omega
  rcases h3 with h3 | h3 | h3
  · obtain ⟨r, e2, c1, c2⟩ := rI_near' (n := S - Y) 15 (P := 32768) rfl (by decide) (by omega) (by omega)
    generalize hV : rI (S - Y) = V at *
    clear h1 h2
    exact ⟨S, V, hS, hV, by omega, by omega, by omega, by omega, rI_exact (i := 15) (c := q * 2 - r) (by show _ = _ * (32768 : Int); omega) (by omega) (by omega), rI_small (by omega) (by omega), rI_small (by omega) (by omega), rI_small (by omega) (by omega)⟩
  · obtain ⟨r, e2, c1, c2⟩ := rI_near' (n := S - Y) 16 (P := 65536) rfl (by decide) (by omega) (by omega)
    generalize hV : rI (S - Y) = V at *
    clear h1 h2
    exact ⟨S, V, hS, hV, by omega, by omega, by omega, by omega, rI_exact (i := 15) (c := q * 2 - r * 2) (by show _ = _ * (32768 : Int); omega) (by omega) (by omega), rI_small (by omega) (by omega), rI_small (by omega) (by omega), rI_small (by omega) (by omega)⟩
  · obtain ⟨r, e2, c1, c2⟩ := rI_near' (n := S - Y) 17 (P := 131072) rfl (by decide) (by omega) (by omega)
    generalize hV : rI (S - Y) = V at *
    clear h1 h2
    exact ⟨S, V, hS, hV, by omega, by omega, by omega, by omega, rI_exact (i := 15) (c := q * 2 - r * 4) (by show _ = _ * (32768 : Int); omega) (by omega) (by omega), rI_small (by omega) (by omega), rI_small (by omega) (by omega), rI_small (by omega) (by omega)⟩
theorem two_17 {m Y : Int} (hm1 : -1000 ≤ m) (hm2 : m ≤ 1000) (hY1 : -11207180288 ≤ Y) (hY2 : Y ≤ 11207180288)
    (h1 : 1099511627776 ≤ ((Y + m * 34359738368).natAbs : Int)) (h2 : ((Y + m * 34359738368).natAbs : Int) < 2199023255552) : TwoOk (m * 34359738368) Y := by
  obtain ⟨q, e1, b1, b2⟩ := rI_near' (n := Y + m * 34359738368) 17 (P := 131072) rfl (by decide) (by omega) (by omega)
  generalize hS : rI (Y + m * 34359738368) = S at *
  have h3 : ((S - Y).natAbs : Int) < 1099511627776 ∨ (1099511627776 ≤ ((S - Y).natAbs : Int) ∧ ((S - Y).natAbs : Int) < 2199023255552) ∨ 2199023255552 ≤ ((S - Y).natAbs : Int) := by omega
  rcases h3 with h3 | h3 | h3
  · obtain ⟨r, e2, c1, c2⟩ := rI_near' (n := S - Y) 16 (P := 65536) rfl (by decide) (by omega) (by omega)
    generalize hV : rI (S - Y) = V at *
    clear h1 h2
    exact ⟨S, V, hS, hV, by omega, by omega, by omega, by omega, rI_exact (i := 16) (c := q * 2 - r) (by show _ = _ * (65536 : Int); omega) (by omega) (by omega), rI_small (by omega) (by omega), rI_small (by omega) (by omega), rI_small (by omega) (by omega)⟩
  · obtain ⟨r, e2, c1, c2⟩ := rI_near' (n := S - Y) 17 (P := 131072) rfl (by decide) (by omega) (by omega)
    generalize hV : rI (S - Y) = V at *
    clear h1 h2
    exact ⟨S, V, hS, hV, by omega, by omega, by omega, by omega, rI_exact (i := 16) (c := q * 2 - r * 2) (by show _ = _ * (65536 : Int); omega) (by omega) (by omega), rI_small (by omega) (by omega), rI_small (by omega) (by omega), rI_small (by omega) (by omega)⟩
  · obtain ⟨r, e2, c1, c2⟩ := rI_near' (n := S - Y) 18 (P := 262144) rfl (by decide) (by omega) (by omega)
    generalize hV : rI (S - Y) = V at *
    clear h1 h2
    exact ⟨S, V, hS, hV, by omega, by omega, by omega, by omega, rI_exact (i := 16) (c := q * 2 - r * 4) (by show _ = _ * (65536 : Int); omega) (by omega) (by omega), rI_small (by omega) (by omega), rI_small (by omega) (by omega), rI_small (by omega) (by omega)⟩
theorem two_18 {m Y : Int} (hm1 : -1000 ≤ m) (hm2 : m ≤ 1000) (hY1 : -11207180288 ≤ Y) (hY2 : Y ≤ 11207180288)
    (h1 : 2199023255552 ≤ ((Y + m * 34359738368).natAbs : Int)) (h2 : ((Y + m * 34359738368).natAbs : Int) < 4398046511104) : TwoOk (m * 34359738368) Y := by
  obtain ⟨q, e1, b1, b2⟩ := rI_near' (n := Y + m * 34359738368) 18 (P := 262144) rfl (by decide) (by omega) (by omega)
  generalize hS : rI (Y + m * 34359738368) = S at *
  have h3 : ((S - Y).natAbs : Int) < 2199023255552 ∨ (2199023255552 ≤ ((S - Y).natAbs : Int) ∧ ((S - Y).natAbs : Int) < 4398046511104) ∨ 4398046511104 ≤ ((S - Y).natAbs : Int) := by omega
  rcases h3 with h3 | h3 | h3
  · obtain ⟨r, e2, c1, c2⟩ := rI_near' (n := S - Y) 17 (P := 131072) rfl (by decide) (by omega) (by omega)
    generalize hV : rI (S - Y) = V at *
    clear h1 h2
    exact ⟨S, V, hS, hV, by omega, by omega, by omega, by omega, rI_exact (i := 17) (c := q * 2 - r) (by show _ = _ * (131072 : Int); omega) (by omega) (by omega), rI_small (by omega) (by omega), rI_small (by omega) (by omega), rI_small (by omega) (by omega)⟩
  · obtain ⟨r, e2, c1, c2⟩ := rI_near' (n := S - Y) 18 (P := 262144) rfl (by decide) (by omega) (by omega)
    generalize hV : rI (S - Y) = V at *
    clear h1 h2
    exact ⟨S, V, hS, hV, by omega, by omega, by omega, by omega, rI_exact (i := 17) (c := q * 2 - r * 2) (by show _ = _ * (131072 : Int); omega) (by omega) (by omega), rI_small (by omega) (by omega), rI_small (by omega) (by omega), rI_small (by omega) (by omega)⟩
  · obtain ⟨r, e2, c1, c2⟩ := rI_near' (n := S - Y) 19 (P := 524288) rfl (by decide) (by omega) (by omega)
    generalize hV : rI (S - Y) = V at *
    clear h1 h2
    exact ⟨S, V, hS, hV, by omega, by omega, by omega, by omega, rI_exact (i := 17) (c := q * 2 - r * 4) (by show _ = _ * (131072 : Int); omega) (by omega) (by omega), rI_small (by omega) (by omega), rI_small (by omega) (by omega), rI_small (by omega) (by omega)⟩
theorem two_19 {m Y : Int} (hm1 : -1000 ≤ m) (hm2 : m ≤ 1000) (hY1 : -11207180288 ≤ Y) (hY2 : Y ≤ 11207180288)
    (h1 : 4398046511104 ≤ ((Y + m * 34359738368).natAbs : Int)) (h2 : ((Y + m * 34359738368).natAbs : Int) < 8796093022208) : TwoOk (m * 34359738368) Y := by
  obtain ⟨q, e1, b1, b2⟩ := rI_near' (n := Y + m * 34359738368) 19 (P := 524288) rfl (by decide) (by omega) (by omega)
  generalize hS : rI (Y + m * 34359738368) = S at *
  have h3 : ((S - Y).natAbs : Int) < 4398046511104 ∨ (4398046511104 ≤ ((S - Y).natAbs : Int) ∧ ((S - Y).natAbs : Int) < 8796093022208) ∨ 8796093022208 ≤ ((S - Y).natAbs : Int) := by omega
  rcases h3 with h3 | h3 | h3
  · obtain ⟨r, e2, c1, c2⟩ := rI_near' (n := S - Y) 18 (P := 262144) rfl (by decide) (by omega) (by omega)
    generalize hV : rI (S - Y) = V at *
    clear h1 h2
    exact ⟨S, V, hS, hV, by omega, by omega, by omega, by omega, rI_exact (i := 18) (c := q * 2 - r) (by show _ = _ * (262144 : Int); omega) (by omega) (by omega), rI_small (by omega) (by omega), rI_small (by omega) (by omega), rI_small (by omega) (by omega)⟩
  · obtain ⟨r, e2, c1, c2⟩ := rI_near' (n := S - Y) 19 (P := 524288) rfl (by decide) (by omega) (by omega)
    generalize hV : rI (S - Y) = V at *
    clear h1 h2
    exact ⟨S, V, hS, hV, by omega, by omega, by omega, by omega, rI_exact (i := 18) (c := q * 2 - r * 2) (by show _ = _ * (262144 : Int); omega) (by omega) (by omega), rI_small (by omega) (by omega), rI_small (by omega) (by omega), rI_small (by omega) (by omega)⟩
  · obtain ⟨r, e2, c1, c2⟩ := rI_near' (n := S - Y) 20 (P := 1048576) rfl (by decide) (by omega) (by omega)
    generalize hV : rI (S - Y) = V at *
    clear h1 h2
    exact ⟨S, V, hS, hV, by omega, by omega, by omega, by omega, rI_exact (i := 18) (c := q * 2 - r * 4) (by show _ = _ * (262144 : Int); omega) (by omega) (by omega), rI_small (by omega) (by omega), rI_small (by omega) (by omega), rI_small (by omega) (by omega)⟩
theorem two_20 {m Y : Int} (hm1 : -1000 ≤ m) (hm2 : m ≤ 1000) (hY1 : -11207180288 ≤ Y) (hY2 : Y ≤ 11207180288)
    (h1 : 8796093022208 ≤ ((Y + m * 34359738368).natAbs : Int)) (h2 : ((Y + m * 34359738368).natAbs : Int) < 17592186044416) : TwoOk (m * 34359738368) Y := by
  obtain ⟨q, e1, b1, b2⟩ := rI_near' (n := Y + m * 34359738368) 20 (P := 1048576) rfl (by decide) (by omega) (by omega)
  generalize hS : rI (Y + m * 34359738368) = S at *
  have h3 : ((S - Y).natAbs : Int) < 8796093022208 ∨ (8796093022208 ≤ ((S - Y).natAbs : Int) ∧ ((S - Y).natAbs : Int) < 17592186044416) ∨ 17592186044416 ≤ ((S - Y).natAbs : Int) := by omega
  rcases h3 with h3 | h3 | h3
  · obtain ⟨r, e2, c1, c2⟩ := rI_near' (n := S - Y) 19 (P := 524288) rfl (by decide) (by omega) (by omega)
    generalize hV : rI (S - Y) = V at *
    clear h1 h2
    exact ⟨S, V, hS, hV, by omega, by omega, by omega, by omega, rI_exact (i := 19) (c := q * 2 - r) (by show _ = _ * (524288 : Int); omega) (by omega) (by omega), rI_small (by omega) (by omega), rI_small (by omega) (by omega), rI_small (by omega) (by omega)⟩
  · obtain ⟨r, e2, c1, c2⟩ := rI_near' (n := S - Y) 20 (P := 1048576) rfl (by decide) (by omega) (by omega)
    generalize hV : rI (S - Y) = V at *
    clear h1 h2
    exact ⟨S, V, hS, hV, by omega, by omega, by omega, by omega, rI_exact (i := 19) (c := q * 2 - r * 2) (by show _ = _ * (524288 : Int); omega) (by omega) (by omega), rI_small (by omega) (by omega), rI_small (by omega) (by omega), rI_small (by omega) (by omega)⟩
  · obtain ⟨r, e2, c1, c2⟩ := rI_near' (n := S - Y) 21 (P := 2097152) rfl (by decide) (by omega) (by omega)
    generalize hV : rI (S - Y) = V at *
    clear h1 h2
    exact ⟨S, V, hS, hV, by omega, by omega, by omega, by omega, rI_exact (i := 19) (c := q * 2 - r * 4) (by show _ = _ * (524288 : Int); omega) (by omega) (by omega), rI_small (by omega) (by omega), rI_small (by omega) (by omega), rI_small (by omega) (by omega)⟩
theorem two_21 {m Y : Int} (hm1 : -1000 ≤ m) (hm2 : m ≤ 1000) (hY1 : -11207180288 ≤ Y) (hY2 : Y ≤ 11207180288)
    (h1 : 17592186044416 ≤ ((Y + m * 34359738368).natAbs : Int)) (h2 : ((Y + m * 34359738368).natAbs : Int) < 35184372088832) : TwoOk (m * 34359738368) Y := by
  obtain ⟨q, e1, b1, b2⟩ := rI_near' (n := Y + m * 34359738368) 21 (P := 2097152) rfl (by decide) (by omega) (by omega)
  generalize hS : rI (Y + m * 34359738368) = S at *
  have h3 : ((S - Y).natAbs : Int) < 17592186044416 ∨ (17592186044416 ≤ ((S - Y).natAbs : Int) ∧ ((S - Y).natAbs : Int) < 35184372088832) ∨ 35184372088832 ≤ ((S - Y).natAbs : Int) := by omega
  rcases h3 with h3 | h3 | h3
  · obtain ⟨r, e2, c1, c2⟩ := rI_near' (n := S - Y) 20 (P := 1048576) rfl (by decide) (by omega) (by omega)
    generalize hV : rI (S - Y) = V at *
    clear h1 h2
    exact ⟨S, V, hS, hV, by omega, by omega, by omega, by omega, rI_exact (i := 20) (c := q * 2 - r) (by show _ = _ * (1048576 : Int); omega) (by omega) (by omega), rI_small (by omega) (by omega), rI_small (by omega) (by omega), rI_small (by omega) (by omega)⟩
  · obtain ⟨r, e2, c1, c2⟩ := rI_near' (n := S - Y) 21 (P := 2097152) rfl (by decide) (by omega) (by omega)
    generalize hV : rI (S - Y) = V at *
    clear h1 h2
    exact ⟨S, V, hS, hV, by omega, by omega, by omega, by omega, rI_exact (i := 20) (c := q * 2 - r * 2) (by show _ = _ * (1048576 : Int); omega) (by omega) (by omega), rI_small (by omega) (by omega), rI_small (by omega) (by omega), rI_small (by omega) (by omega)⟩
  · obtain ⟨r, e2, c1, c2⟩ := rI_near' (n := S - Y) 22 (P := 4194304) rfl (by decide) (by omega) (by omega)
    generalize hV : rI (S - Y) = V at *
    clear h1 h2
    exact ⟨S, V, hS, hV, by omega, by omega, by omega, by omega, rI_exact (i := 20) (c := q * 2 - r * 4) (by show _ = _ * (1048576 : Int); omega) (by omega) (by omega), rI_small (by omega) (by omega), rI_small (by omega) (by omega), rI_small (by omega) (by omega)⟩
theorem two_22 {m Y : Int} (hm1 : -1000 ≤ m) (hm2 : m ≤ 1000) (hY1 : -11207180288 ≤ Y) (hY2 : Y ≤ 11207180288)
    (h1 : 35184372088832 ≤ ((Y + m * 34359738368).natAbs : Int)) (h2 : ((Y + m * 34359738368).natAbs : Int) < 70368744177664) : TwoOk (m * 34359738368) Y := by
  obtain ⟨q, e1, b1, b2⟩ := rI_near' (n := Y + m * 34359738368) 22 (P := 4194304) rfl (by decide) (by omega) (by omega)
  generalize hS : rI (Y + m * 34359738368) = S at *
  have h3 : ((S - Y).natAbs : Int) < 35184372088832 ∨ (35184372088832 ≤ ((S - Y).natAbs : Int) ∧ ((S - Y).natAbs : Int) < 70368744177664) ∨ 70368744177664 ≤ ((S - Y).natAbs : Int) := by omega
  rcases h3 with h3 | h3 | h3
  · obtain ⟨r, e2, c1, c2⟩ := rI_near' (n := S - Y) 21 (P := 2097152) rfl (by decide) (by omega) (by omega)
    generalize hV : rI (S - Y) = V at *
    clear h1 h2
    exact ⟨S, V, hS, hV, by omega, by omega, by omega, by omega, rI_exact (i := 21) (c := q * 2 - r) (by show _ = _ * (2097152 : Int); omega) (by omega) (by omega), rI_small (by omega) (by omega), rI_small (by omega) (by omega), rI_small (by omega) (by omega)⟩
  · obtain ⟨r, e2, c1, c2⟩ := rI_near' (n := S - Y) 22 (P := 4194304) rfl (by decide) (by omega) (by omega)
    generalize hV : rI (S - Y) = V at *
    clear h1 h2
    exact ⟨S, V, hS, hV, by omega, by omega, by omega, by omega, rI_exact (i := 21) (c := q * 2 - r * 2) (by show _ = _ * (2097152 : Int); omega) (by omega) (by omega), rI_small (by omega) (by omega), rI_small (by omega) (by omega), rI_small (by omega) (by omega)⟩
  · obtain ⟨r, e2, c1, c2⟩ := rI_near' (n := S - Y) 23 (P := 8388608) rfl (by decide) (by omega) (by omega)
    generalize hV : rI (S - Y) = V at *
    clear h1 h2
    exact ⟨S, V, hS, hV, by omega, by omega, by omega, by omega, rI_exact (i := 21) (c := q * 2 - r * 4) (by show _ = _ * (2097152 : Int); omega) (by omega) (by omega), rI_small (by omega) (by omega), rI_small (by omega) (by omega), rI_small (by omega) (by omega)⟩
theorem two_ok {m Y : Int} (hm1 : -1000 ≤ m) (hm2 : m ≤ 1000) (hY1 : -11207180288 ≤ Y) (hY2 : Y ≤ 11207180288) (hY : rI Y = Y) : TwoOk (m * 34359738368) Y := by
  by_cases h0 : m = 0
  · subst h0
    refine ⟨Y, 0, by simpa using hY, by rw [show Y - Y = 0 by omega]; exact rI_small (by decide) (by decide), by omega, by omega, by omega, by omega, by simpa using hY, ?_, rI_small (by decide) (by decide), ?_⟩
    · rw [show Y - (Y - 0) = 0 by omega]; exact rI_small (by decide) (by decide)
    · rw [show Y - (Y - 0) + (0 * 34359738368 - 0) = 0 by omega]; exact rI_small (by decide) (by decide)
  by_cases h11 : ((Y + m * 34359738368).natAbs : Int) < 34359738368
  · exact two_11 hm1 hm2 hY1 hY2 (by omega) h11
  by_cases h12 : ((Y + m * 34359738368).natAbs : Int) < 68719476736
  · exact two_12 hm1 hm2 hY1 hY2 (by omega) h12
  by_cases h13 : ((Y + m * 34359738368).natAbs : Int) < 137438953472
  · exact two_13 hm1 hm2 hY1 hY2 (by omega) h13
  by_cases h14 : ((Y + m * 34359738368).natAbs : Int) < 274877906944
  · exact two_14 hm1 hm2 hY1 hY2 (by omega) h14
  by_cases h15 : ((Y + m * 34359738368).natAbs : Int) < 549755813888
  · exact two_15 hm1 hm2 hY1 hY2 (by omega) h15
  by_cases h16 : ((Y + m * 34359738368).natAbs : Int) < 1099511627776
  · exact two_16 hm1 hm2 hY1 hY2 (by omega) h16
  by_cases h17 : ((Y + m * 34359738368).natAbs : Int) < 2199023255552
  · exact two_17 hm1 hm2 hY1 hY2 (by omega) h17
  by_cases h18 : ((Y + m * 34359738368).natAbs : Int) < 4398046511104
  · exact two_18 hm1 hm2 hY1 hY2 (by omega) h18
  by_cases h19 : ((Y + m * 34359738368).natAbs : Int) < 8796093022208
  · exact two_19 hm1 hm2 hY1 hY2 (by omega) h19
  by_cases h20 : ((Y + m * 34359738368).natAbs : Int) < 17592186044416
  · exact two_20 hm1 hm2 hY1 hY2 (by omega) h20
  by_cases h21 : ((Y + m * 34359738368).natAbs : Int) < 35184372088832
  · exact two_21 hm1 hm2 hY1 hY2 (by omega) h21
  by_cases h22 : ((Y + m * 34359738368).natAbs : Int) < 70368744177664
  · exact two_22 hm1 hm2 hY1 hY2 (by omega) h22
  omega
end Go.Proofs.Ytpjplcbcbabbnaa
