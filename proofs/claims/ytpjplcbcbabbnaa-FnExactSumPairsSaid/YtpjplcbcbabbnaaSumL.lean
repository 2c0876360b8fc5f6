/-
  The walks of the laws on SumForward, SumSteady, SumDouble, SumPairs: each returns true of every list.
-/
import Derived.Test.YtpjplcbcbabbnaaEqF
import Derived.Test.YtpjplcbcbabbnaaSumS
import Derived.Test.YtpjplcbcbabbnaaSumD
import Derived.Test.YtpjplcbcbabbnaaSumP
namespace Go.Proofs.Ytpjplcbcbabbnaa
open Go.RowKit

set_option maxHeartbeats 1000000 in
theorem fnExactSumForward_walk {w : World} (a0 : Option Addr) (len0 cap0 : Nat) (z0 : List Nat) (w0 : IsFloats w a0 len0 cap0 z0) : Calls Try.prog 3 #[.slice a0 len0 cap0] w fun e w' => e = .returned (.bool true) ∧ Below w.heap.size w w' := by
  obtain ⟨hs, hcap, hmax⟩ := w0.slAt
  unfold maxLen at hmax
  by_cases hl : len0 ≤ 1048576
  · have h1 : ∀ x ∈ (z0.take len0).map fl, ∃ u, x = fl u := fun x hx => by obtain ⟨u, _, hu⟩ := List.mem_map.1 hx; exact ⟨u, hu.symm⟩
    have hs : SlAt w a0 len0 ((z0.take len0).map fl) := hs
    have hz : (z0.take len0).length = len0 := by simpa using hs.1
    generalize z0.take len0 = zs at *
    clear w0
    have HS := Lib.hid hs
    have H1 := Lib.hid h1
    clear hs h1
    go_enter Try.func3, Try.ntmps3
    go_wp2_with fail
    refine (toFloats_any _ _ _ _ _ hl HS.out H1.out).mono ?_
    rintro e w1 ⟨g1, rfl, hg1, hh1, hb1⟩
    go_wp2_with fail
    refine (sumF_s _ _ _ zs _ hl ⟨HS.out.1, .inr ⟨_, _, rfl, hh1⟩⟩).mono ?_
    rintro e w2 ⟨v1, n1, rfl, hv1, rfl⟩
    have HS1 := Lib.hid (HS.out.below hb1)
    go_wp2_with fail
    refine (toFloats_any _ _ _ _ _ hl HS1.out.drewN H1.out).mono ?_
    rintro e w3 ⟨g3, rfl, hg3, hh3, hb3⟩
    go_wp2_with fail
    refine (sumF_i _ _ _ zs _ hl ⟨HS.out.1, .inr ⟨_, _, rfl, hh3⟩⟩).mono ?_
    rintro e w4 ⟨v2, n2, rfl, hv2, rfl⟩
    go_wp2_with fail
    refine (sameFloat_any _ _ _ (wide_both (hv2.trans hv1.symm) _ _)).mono ?_
    rintro e w5 ⟨n3, rfl, rfl⟩
    have HS3 := Lib.hid (HS1.out.drewN.below hb3)
    have HX := Lib.hid (show SlAt w3 (some ⟨g3, 0, none⟩) len0 (zs.map fl) from ⟨HS.out.1, .inr ⟨_, _, rfl, hh3⟩⟩)
    go_wp2_with fail
    refine (toFloats_any _ _ _ _ _ hl HS3.out.drewN H1.out).mono ?_
    rintro e w6 ⟨g6, rfl, hg6, hh6, hb6⟩
    go_wp2_with fail
    refine (eqFloats_any _ _ _ _ _ _ _ hl (HX.out.drewN.below hb6) ⟨HS.out.1, .inr ⟨_, _, rfl, hh6⟩⟩ H1.out).mono ?_
    rintro e w7 ⟨n7, rfl, rfl⟩
    go_wp2_with fail
    go_ret
    refine ⟨rfl, below_drewN' ?_⟩
    have s1 := hb1.size
    have s3 := hb3.size
    simp only [World.heap_drewN] at s3
    refine Below.trans (b := w3) (Below.trans (b := w1) hb1 ?_) ?_
    · exact (below_drewN' (Below.refl _ _)).trans (hb3.mono (by simpa using s1))
    · exact (below_drewN' (Below.refl _ _)).trans (hb6.mono (by simp only [World.heap_drewN]; omega))
  · have hl' : ¬ (len0 : Int) ≤ 1048576 := by omega
    have hg : (1048576 : Int) < (len0 : Int) := by omega
    go_enter Try.func3, Try.ntmps3
    go_wp2_with fail
    go_ret
    exact ⟨rfl, Below.refl _ _⟩

set_option maxHeartbeats 1000000 in
theorem fnExactSumSteady_walk {w : World} (a0 : Option Addr) (len0 cap0 : Nat) (z0 : List Nat) (w0 : IsFloats w a0 len0 cap0 z0) : Calls Try.prog 5 #[.slice a0 len0 cap0] w fun e w' => e = .returned (.bool true) ∧ Below w.heap.size w w' := by
  obtain ⟨hs, hcap, hmax⟩ := w0.slAt
  unfold maxLen at hmax
  by_cases hl : len0 ≤ 1048576
  · have h1 : ∀ x ∈ (z0.take len0).map fl, ∃ u, x = fl u := fun x hx => by obtain ⟨u, _, hu⟩ := List.mem_map.1 hx; exact ⟨u, hu.symm⟩
    have hs : SlAt w a0 len0 ((z0.take len0).map fl) := hs
    have hz : (z0.take len0).length = len0 := by simpa using hs.1
    generalize z0.take len0 = zs at *
    clear w0
    have HS := Lib.hid hs
    have H1 := Lib.hid h1
    clear hs h1
    go_enter Try.func5, Try.ntmps5
    go_wp2_with fail
    refine (toFloats_any _ _ _ _ _ hl HS.out H1.out).mono ?_
    rintro e w1 ⟨g1, rfl, hg1, hh1, hb1⟩
    go_wp2_with fail
    refine (sumS_s _ _ _ zs _ hl ⟨HS.out.1, .inr ⟨_, _, rfl, hh1⟩⟩).mono ?_
    rintro e w2 ⟨v1, n1, rfl, hv1, rfl⟩
    have HS1 := Lib.hid (HS.out.below hb1)
    go_wp2_with fail
    refine (toFloats_any _ _ _ _ _ hl HS1.out.drewN H1.out).mono ?_
    rintro e w3 ⟨g3, rfl, hg3, hh3, hb3⟩
    go_wp2_with fail
    refine (sumS_i _ _ _ zs _ hl ⟨HS.out.1, .inr ⟨_, _, rfl, hh3⟩⟩).mono ?_
    rintro e w4 ⟨v2, n2, rfl, hv2, rfl⟩
    go_wp2_with fail
    refine (sameFloat_any _ _ _ (wide_both (hv2.trans hv1.symm) _ _)).mono ?_
    rintro e w5 ⟨n3, rfl, rfl⟩
    have HS3 := Lib.hid (HS1.out.drewN.below hb3)
    have HX := Lib.hid (show SlAt w3 (some ⟨g3, 0, none⟩) len0 (zs.map fl) from ⟨HS.out.1, .inr ⟨_, _, rfl, hh3⟩⟩)
    go_wp2_with fail
    refine (toFloats_any _ _ _ _ _ hl HS3.out.drewN H1.out).mono ?_
    rintro e w6 ⟨g6, rfl, hg6, hh6, hb6⟩
    go_wp2_with fail
    refine (eqFloats_any _ _ _ _ _ _ _ hl (HX.out.drewN.below hb6) ⟨HS.out.1, .inr ⟨_, _, rfl, hh6⟩⟩ H1.out).mono ?_
    rintro e w7 ⟨n7, rfl, rfl⟩
    go_wp2_with fail
    go_ret
    refine ⟨rfl, below_drewN' ?_⟩
    have s1 := hb1.size
    have s3 := hb3.size
    simp only [World.heap_drewN] at s3
    refine Below.trans (b := w3) (Below.trans (b := w1) hb1 ?_) ?_
    · exact (below_drewN' (Below.refl _ _)).trans (hb3.mono (by simpa using s1))
    · exact (below_drewN' (Below.refl _ _)).trans (hb6.mono (by simp only [World.heap_drewN]; omega))
  · have hl' : ¬ (len0 : Int) ≤ 1048576 := by omega
    have hg : (1048576 : Int) < (len0 : Int) := by omega
    go_enter Try.func5, Try.ntmps5
    go_wp2_with fail
    go_ret
    exact ⟨rfl, Below.refl _ _⟩

set_option maxHeartbeats 1000000 in
theorem fnExactSumDouble_walk {w : World} (a0 : Option Addr) (len0 cap0 : Nat) (z0 : List Nat) (w0 : IsFloats w a0 len0 cap0 z0) : Calls Try.prog 6 #[.slice a0 len0 cap0] w fun e w' => e = .returned (.bool true) ∧ Below w.heap.size w w' := by
  obtain ⟨hs, hcap, hmax⟩ := w0.slAt
  unfold maxLen at hmax
  by_cases hl : len0 ≤ 1048576
  · have h1 : ∀ x ∈ (z0.take len0).map fl, ∃ u, x = fl u := fun x hx => by obtain ⟨u, _, hu⟩ := List.mem_map.1 hx; exact ⟨u, hu.symm⟩
    have hs : SlAt w a0 len0 ((z0.take len0).map fl) := hs
    have hz : (z0.take len0).length = len0 := by simpa using hs.1
    generalize z0.take len0 = zs at *
    clear w0
    have HS := Lib.hid hs
    have H1 := Lib.hid h1
    clear hs h1
    go_enter Try.func6, Try.ntmps6
    go_wp2_with fail
    refine (toFloats_any _ _ _ _ _ hl HS.out H1.out).mono ?_
    rintro e w1 ⟨g1, rfl, hg1, hh1, hb1⟩
    go_wp2_with fail
    refine (sumD_s _ _ _ zs _ hl ⟨HS.out.1, .inr ⟨_, _, rfl, hh1⟩⟩).mono ?_
    rintro e w2 ⟨v1, n1, rfl, hv1, rfl⟩
    have HS1 := Lib.hid (HS.out.below hb1)
    go_wp2_with fail
    refine (toFloats_any _ _ _ _ _ hl HS1.out.drewN H1.out).mono ?_
    rintro e w3 ⟨g3, rfl, hg3, hh3, hb3⟩
    go_wp2_with fail
    refine (sumD_i _ _ _ zs _ hl ⟨HS.out.1, .inr ⟨_, _, rfl, hh3⟩⟩).mono ?_
    rintro e w4 ⟨v2, n2, rfl, hv2, rfl⟩
    go_wp2_with fail
    refine (sameFloat_any _ _ _ (hv2.trans hv1.symm)).mono ?_
    rintro e w5 ⟨n3, rfl, rfl⟩
    have HS3 := Lib.hid (HS1.out.drewN.below hb3)
    have HX := Lib.hid (show SlAt w3 (some ⟨g3, 0, none⟩) len0 (zs.map fl) from ⟨HS.out.1, .inr ⟨_, _, rfl, hh3⟩⟩)
    go_wp2_with fail
    refine (toFloats_any _ _ _ _ _ hl HS3.out.drewN H1.out).mono ?_
    rintro e w6 ⟨g6, rfl, hg6, hh6, hb6⟩
    go_wp2_with fail
    refine (eqFloats_any _ _ _ _ _ _ _ hl (HX.out.drewN.below hb6) ⟨HS.out.1, .inr ⟨_, _, rfl, hh6⟩⟩ H1.out).mono ?_
    rintro e w7 ⟨n7, rfl, rfl⟩
    go_wp2_with fail
    go_ret
    refine ⟨rfl, below_drewN' ?_⟩
    have s1 := hb1.size
    have s3 := hb3.size
    simp only [World.heap_drewN] at s3
    refine Below.trans (b := w3) (Below.trans (b := w1) hb1 ?_) ?_
    · exact (below_drewN' (Below.refl _ _)).trans (hb3.mono (by simpa using s1))
    · exact (below_drewN' (Below.refl _ _)).trans (hb6.mono (by simp only [World.heap_drewN]; omega))
  · have hl' : ¬ (len0 : Int) ≤ 1048576 := by omega
    have hg : (1048576 : Int) < (len0 : Int) := by omega
    go_enter Try.func6, Try.ntmps6
    go_wp2_with fail
    go_ret
    exact ⟨rfl, Below.refl _ _⟩

set_option maxHeartbeats 1000000 in
theorem fnExactSumPairs_walk {w : World} (a0 : Option Addr) (len0 cap0 : Nat) (z0 : List Nat) (w0 : IsFloats w a0 len0 cap0 z0) : Calls Try.prog 4 #[.slice a0 len0 cap0] w fun e w' => e = .returned (.bool true) ∧ Below w.heap.size w w' := by
  obtain ⟨hs, hcap, hmax⟩ := w0.slAt
  unfold maxLen at hmax
  by_cases hl : len0 ≤ 1048576
  · have h1 : ∀ x ∈ (z0.take len0).map fl, ∃ u, x = fl u := fun x hx => by obtain ⟨u, _, hu⟩ := List.mem_map.1 hx; exact ⟨u, hu.symm⟩
    have hs : SlAt w a0 len0 ((z0.take len0).map fl) := hs
    have hz : (z0.take len0).length = len0 := by simpa using hs.1
    generalize z0.take len0 = zs at *
    clear w0
    have HS := Lib.hid hs
    have H1 := Lib.hid h1
    clear hs h1
    go_enter Try.func4, Try.ntmps4
    go_wp2_with fail
    refine (toFloats_any _ _ _ _ _ hl HS.out H1.out).mono ?_
    rintro e w1 ⟨g1, rfl, hg1, hh1, hb1⟩
    go_wp2_with fail
    refine (pairs_s _ _ _ zs _ hl ⟨HS.out.1, .inr ⟨_, _, rfl, hh1⟩⟩ (Nat.le_refl _) (by omega)).mono ?_
    rintro e w2 ⟨v1, n1, rfl, hv1, rfl⟩
    have HS1 := Lib.hid (HS.out.below hb1)
    go_wp2_with fail
    refine (toFloats_any _ _ _ _ _ hl HS1.out.drewN H1.out).mono ?_
    rintro e w3 ⟨g3, rfl, hg3, hh3, hb3⟩
    go_wp2_with fail
    refine (pairs_i _ _ _ zs _ hl ⟨HS.out.1, .inr ⟨_, _, rfl, hh3⟩⟩ (Nat.le_refl _) (by omega)).mono ?_
    rintro e w4 ⟨v2, n2, rfl, hv2, rfl⟩
    go_wp2_with fail
    refine (sameFloat_any _ _ _ (wide_both (hv2.trans hv1.symm) _ _)).mono ?_
    rintro e w5 ⟨n3, rfl, rfl⟩
    have HS3 := Lib.hid (HS1.out.drewN.below hb3)
    have HX := Lib.hid (show SlAt w3 (some ⟨g3, 0, none⟩) len0 (zs.map fl) from ⟨HS.out.1, .inr ⟨_, _, rfl, hh3⟩⟩)
    go_wp2_with fail
    refine (toFloats_any _ _ _ _ _ hl HS3.out.drewN H1.out).mono ?_
    rintro e w6 ⟨g6, rfl, hg6, hh6, hb6⟩
    go_wp2_with fail
    refine (eqFloats_any _ _ _ _ _ _ _ hl (HX.out.drewN.below hb6) ⟨HS.out.1, .inr ⟨_, _, rfl, hh6⟩⟩ H1.out).mono ?_
    rintro e w7 ⟨n7, rfl, rfl⟩
    go_wp2_with fail
    go_ret
    refine ⟨rfl, below_drewN' ?_⟩
    have s1 := hb1.size
    have s3 := hb3.size
    simp only [World.heap_drewN] at s3
    refine Below.trans (b := w3) (Below.trans (b := w1) hb1 ?_) ?_
    · exact (below_drewN' (Below.refl _ _)).trans (hb3.mono (by simpa using s1))
    · exact (below_drewN' (Below.refl _ _)).trans (hb6.mono (by simp only [World.heap_drewN]; omega))
  · have hl' : ¬ (len0 : Int) ≤ 1048576 := by omega
    have hg : (1048576 : Int) < (len0 : Int) := by omega
    go_enter Try.func4, Try.ntmps4
    go_wp2_with fail
    go_ret
    exact ⟨rfl, Below.refl _ _⟩
end Go.Proofs.Ytpjplcbcbabbnaa
