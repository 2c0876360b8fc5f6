/-
  laws.fresh: a further draw, in a block of its own.
-/
import Derived.Test.YthadnlekadhgpaaDoorAtC
namespace Go.Proofs.YthadnlekadhgpaaDoor
open Go.RowKit

theorem byteInfo : (Tryd.prog.info? 5).map (fun i => (i.zero, i.size, i.bytes)) = some (some (.int .u8 0), 1, 1) := by kernel_rfl
def FreshAns (w : World) (e : Ending) (w' : World) : Prop :=
  ∃ g n cap xs, e = .returned (.slice (some ⟨g, 0, none⟩) n cap) ∧ w.heap.size ≤ g ∧ CodeAt w' (some ⟨g, 0, none⟩) n xs ∧ n ≤ 601 ∧ Below w.heap.size w w'
def FreshRel (w : World) (k : Nat) (v : Value) (wr : World) : Prop :=
  ∃ n xs, wr.ownsRow w.heap.size 5 1 v n xs ∧ AllBytes xs ∧ 1 ≤ n ∧ n ≤ k + 1 ∧ Below w.heap.size w wr

theorem owns_slice {w : World} {base e n : Nat} {v : Value} {xs : List Value} (h : w.ownsRow base e 1 v n xs) (hn : 1 ≤ n) : ∃ g cap, v = .slice (some ⟨g, 0, none⟩) n cap ∧ base ≤ g := by
  rcases h.2 with ⟨_, h0⟩ | ⟨g, cap, _, h1, h2, _⟩
  · omega
  · exact ⟨g, cap, h1, h2⟩
theorem fresh_end {w wr : World} {k : Nat} {v : Value} (h : FreshRel w k v wr) (hk : k ≤ 600) : FreshAns w (.returned v) wr := by
  obtain ⟨n, xs, hown, hb, h1, h2, hbel⟩ := h
  obtain ⟨g, cap, rfl, hg⟩ := owns_slice hown h1
  have hl := hown.1
  exact ⟨g, n, cap, xs, rfl, hg, ⟨⟨by omega, .inr ⟨g, 0, rfl, holds_of_owns hown⟩⟩, hb, by omega⟩, by omega, hbel⟩

set_option maxHeartbeats 1000000 in
theorem fresh_some (b off len cap : Nat) (xs : List Value) (salt : Nat) (w : World) (hx : CodeAt w (some ⟨b, off, none⟩) len xs) (h0 : 0 < len) (hl : len ≤ 1048576) (hs : salt < 256) :
    Calls Tryd.prog 12 #[.slice (some ⟨b, off, none⟩) len cap, .int .i64 salt] w (FreshAns w) := by
  obtain ⟨i0, hi, hz0, hz1, hz2⟩ := info_parts byteInfo
  have H := Lib.hid hx
  have hh : Holds w b off xs := by
    rcases hx.1.2 with h | ⟨b', o', he, hh⟩
    · omega
    · cases he; exact hh
  have hbl : b < w.heap.size := hh.lt (by rw [hx.1.1]; exact h0)
  have HH := Lib.hid hh
  clear hh hx
  go_enter Tryd.func12, Tryd.ntmps12
  go_wp2_with fail
  go_loopw [5, 6] (fun v i wr => ∃ k : Nat, k ≤ len ∧ k ≤ 600 ∧ i = .int .i64 k ∧ FreshRel w k v wr) (fun _ i _ => len - (intOf i).toNat)
  case atStart =>
    refine ⟨0, by omega, by omega, rfl, 1, [.int .u8 salt], ?_, ?_, by omega, by omega, (Below.refl _ _).alloc (Nat.le_refl _) _⟩
    · exact World.ownsRow_lit w _ 1 (Nat.le_refl _) (by decide) rfl
    · intro x hx
      rw [List.mem_singleton] at hx
      exact ⟨salt, hs, hx⟩
  case round =>
    obtain ⟨k, hk, hk6, rfl, hrel⟩ := hrel
    have HR := Lib.hid hrel
    clear hrel
    by_cases hlt : (k : Int) < (len : Int)
    · by_cases h6 : (k : Int) < 600
      · obtain ⟨n, ys, hown, hb, h1, h2, hbel⟩ := HR.out
        obtain ⟨u, hu, hxu⟩ := IsBytes_lt H.out.2.1 (i := k) (by rw [H.out.1.1]; omega)
        have hcx : wr.cell? ⟨b, off + k, none⟩ = some (.int .u8 u) := by rw [hbel.cell (p := ⟨b, off + k, none⟩) hbl, HH.out.at (by rw [H.out.1.1]; omega), hxu]; rfl
        have HO := Lib.hid (show _ ∧ _ ∧ _ from ⟨hown, hb, hbel⟩)
        clear hown hb hbel hxu HR
        go_wp2_with (at_builtin; refine wpList_append_own _ rfl _ _ 30 rfl w.heap.size 5 i0 (.int .u8 0) 1 1 Tryd.underlying30 hi hz0 hz1 hz2 rfl (by decide) _ _ _ rfl (HO.out.1.alloc _) ⟨wr.heap.size, 0, none⟩ 1 1 [_] rfl rfl (cell_one_new _ _ _) ?c2 ?c3 ?c4 ?c5 ?_)
        case c2 => intro x hx; rw [List.mem_singleton] at hx; subst hx; rfl
        case c3 => unfold maxLen; omega
        case c4 => omega
        case c5 => have := HO.out.2.2.size; simp; omega
        intro v' w1 hown1 hgrow _
        have hbel1 : Below w.heap.size w w1 := (HO.out.2.2.alloc HO.out.2.2.size _).grown hgrow (by have := HO.out.2.2.size; simp; omega) (fun j hj => (HO.out.1.lt j hj).1)
        have HN := Lib.hid (show FreshRel w (k + 1) v' w1 from ⟨_, _, hown1, fun x hx => by
          rcases List.mem_append.1 hx with hx | hx
          · exact HO.out.2.1 x hx
          · rw [List.mem_singleton] at hx
            subst hx
            exact ⟨(_ % 256 : Int).toNat, by omega, by unfold byteV; rw [Int.toNat_of_nonneg (Int.emod_nonneg _ (by decide))]⟩, by omega, by omega, hbel1⟩)
        clear hown1 hgrow hbel1
        go_wp2_with fail
        go_roundw
        case rel => exact ⟨k + 1, by omega, by omega, by go_num, HN.out⟩
        case measure => simp [intOf]; omega
      · go_wp2_with fail
        go_ret
        exact fresh_end HR.out hk6
    · go_wp2_with fail
      go_ret
      exact fresh_end HR.out hk6

set_option maxHeartbeats 1000000 in
theorem fresh_none (a : Option Addr) (cap : Nat) (salt : Nat) (w : World) (hs : salt < 256) :
    Calls Tryd.prog 12 #[.slice a 0 cap, .int .i64 salt] w (FreshAns w) := by
  go_enter Tryd.func12, Tryd.ntmps12
  go_wp2_with fail
  go_loopw [5, 6] (fun v i wr => i = .int .i64 0 ∧ FreshRel w 0 v wr) (fun _ i _ => 1 - (intOf i).toNat)
  case atStart =>
    refine ⟨rfl, 1, [.int .u8 salt], ?_, ?_, by omega, by omega, (Below.refl _ _).alloc (Nat.le_refl _) _⟩
    · exact World.ownsRow_lit w _ 1 (Nat.le_refl _) (by decide) rfl
    · intro x hx
      rw [List.mem_singleton] at hx
      exact ⟨salt, hs, hx⟩
  case round =>
    obtain ⟨rfl, hrel⟩ := hrel
    have HR := Lib.hid hrel
    clear hrel
    go_wp2_with fail
    go_ret
    exact fresh_end HR.out (by omega)
theorem fresh_any (a : Option Addr) (len cap : Nat) (xs : List Value) (salt : Nat) (w : World) (hx : CodeAt w a len xs) (hl : len ≤ 1048576) (hs : salt < 256) :
    Calls Tryd.prog 12 #[.slice a len cap, .int .i64 salt] w (FreshAns w) := by
  by_cases h0 : len = 0
  · subst h0; exact fresh_none a cap salt w hs
  · rcases hx.1.2 with h | ⟨b, off, rfl, hh⟩
    · exact absurd h h0
    · exact fresh_some b off len cap xs salt w hx (by omega) hl hs
end Go.Proofs.YthadnlekadhgpaaDoor
