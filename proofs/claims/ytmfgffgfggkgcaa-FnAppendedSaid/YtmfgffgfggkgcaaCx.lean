/-
  Complex numbers: the conversion part by part, up to NaN; laws.sameComplex and laws.eqComplex64S answer true of the same words.
-/
import Derived.Test.YtmfgffgfggkgcaaRows
import Derived.Test.YtmfgffgfggkgcaaSl
import Derived.Test.YtmfgffgfggkgcaaSame
import Derived.Test.YtmfgffgfggkgcaaSub
import Derived.WalkSpells
import Derived.WalkLawsBesides
import Derived.LoopTactic
import Derived.Deep.RegionWith
namespace Go.Proofs.Ytmfgffgfggkgcaa
open Go.RowKit
section
variable {P : Program} (w : World)
@[go_sem] theorem run_convert_cc (src dst : TypeId) (s k : FloatKind) (a b : Nat) (hs : (P.underlying src).isSome = true) (hd : P.underlying dst = some (.complex k)) :
    (convert src dst (.complex s a b)).run P w = .ok (.complex k (cval s a k w) (cval s b k (w.drewN (cdn s a k)))) ((w.drewN (cdn s a k)).drewN (cdn s b k)) := by
  obtain ⟨u, hs'⟩ := Option.isSome_iff_exists.1 hs
  have h1 := run_floatToFloat_any (P := P) s k a w
  have h2 := run_floatToFloat_any (P := P) s k b (w.drewN (cdn s a k))
  cases u <;> simp [convert, run_underlying hs', run_underlying hd, Conv.complexToComplex, h1, h2]
end
def YesAns (w : World) (e : Ending) (w' : World) : Prop := ∃ n, e = .returned (.bool true) ∧ w' = w.drewN n
set_option maxHeartbeats 1000000 in
theorem sameComplex_any (a b c d : Nat) (w : World) (h1 : FE .f64 a c) (h2 : FE .f64 b d) :
    Calls Try.prog 36 #[.complex .f64 a b, .complex .f64 c d] w (YesAns w) := by
  go_enter Try.func36, Try.ntmps36
  go_wp2_with fail
  refine (sameFloat_any _ _ _ h1).mono ?_
  rintro e w1 ⟨n1, rfl, rfl⟩
  go_wp2_with fail
  refine (sameFloat_any _ _ _ h2).mono ?_
  rintro e w2 ⟨n2, rfl, rfl⟩
  go_wp2_with fail
  go_ret
  exact ⟨_, rfl, rfl⟩
/-- A complex word. -/
def cx (p : Nat × Nat) : Value := .complex .f32 p.1 p.2
set_option maxHeartbeats 1000000 in
theorem eqCx_some (b off cb c o cc len : Nat) (xs : List (Nat × Nat)) (w : World) (hx : xs.length = len) (hlen : len ≤ 1048576) (hb : Holds w b off (xs.map cx)) (hc : Holds w c o (xs.map cx)) :
    Calls Try.prog 19 #[.slice (some ⟨b, off, none⟩) len cb, .slice (some ⟨c, o, none⟩) len cc] w (YesAns w) := by
  go_enter Try.func19, Try.ntmps19
  go_wp2
  go_loopw [5] (fun i wr => ∃ k m : Nat, k ≤ len ∧ i = .int .i64 k ∧ wr = w.drewN m) (fun i _ => len - (intOf i).toNat)
  case atStart => exact ⟨0, 0, by omega, rfl, rfl⟩
  case round =>
    obtain ⟨k, m, hk, rfl, rfl⟩ := hrel
    by_cases hlt : (k : Int) < (len : Int)
    · have hk' : k < xs.length := by omega
      have c1 : w.cell? ⟨b, off + k, none⟩ = some (.complex .f32 xs[k].1 xs[k].2) := by rw [hb.at (by simpa using hk'), List.getElem_map]; rfl
      have c2 : w.cell? ⟨c, o + k, none⟩ = some (.complex .f32 xs[k].1 xs[k].2) := by rw [hc.at (by simpa using hk'), List.getElem_map]; rfl
      generalize xs[k].1 = u at *
      generalize xs[k].2 = v at *
      go_wp2
      go_region_with ((go_at_call 36; refine (sameComplex_any _ _ _ _ _ (wide_both (FE.refl _ _) _ _) (wide_both (FE.refl _ _) _ _)).mono ?_; rintro e w' ⟨n, rfl, rfl⟩))
      all_goals
        go_wp2
        go_roundw
        case rel => exact ⟨k + 1, _, by omega, by go_num, rfl⟩
        case measure => simp [intOf]; omega
    · go_wp2
      go_ret
      exact ⟨_, rfl, rfl⟩
set_option maxHeartbeats 400000 in
theorem eqCx_none (a : Option Addr) (ca : Nat) (b : Option Addr) (cb : Nat) (w : World) :
    Calls Try.prog 19 #[.slice a 0 ca, .slice b 0 cb] w (YesAns w) := by
  go_enter Try.func19, Try.ntmps19
  go_wp2
  go_loop [5] (fun i => i = .int .i64 0) (fun i => 1 - (intOf i).toNat)
  case atStart => exact rfl
  case round =>
    obtain rfl := hrel
    go_wp2
    go_ret
    exact ⟨0, rfl, rfl⟩
theorem eqCx_any (a : Option Addr) (ca : Nat) (b : Option Addr) (cb len : Nat) (xs : List (Nat × Nat)) (w : World) (hlen : len ≤ 1048576) (ha : SlAt w a len (xs.map cx)) (hb : SlAt w b len (xs.map cx)) :
    Calls Try.prog 19 #[.slice a len ca, .slice b len cb] w (YesAns w) := by
  have hz : xs.length = len := by simpa using ha.1
  by_cases h0 : len = 0
  · subst h0; exact eqCx_none a ca b cb w
  · rcases ha.2 with h | ⟨b1, o1, rfl, g1⟩
    · exact absurd h h0
    · rcases hb.2 with h | ⟨b2, o2, rfl, g2⟩
      · exact absurd h h0
      · exact eqCx_some _ _ _ _ _ _ _ xs w hz hlen g1 g2
end Go.Proofs.Ytmfgffgfggkgcaa
