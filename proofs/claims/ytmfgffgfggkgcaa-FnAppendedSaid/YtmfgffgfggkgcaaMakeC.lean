/-
  The reference's numbers of single precision that are drawn: a word that fits its kind. The cursor lies in a block of its own.
-/
import Derived.Test.YtmfgffgfggkgcaaCur
import Derived.Test.YtmfgffgfggkgcaaFromS
namespace Go.Proofs.Ytmfgffgfggkgcaa
open Go.RowKit

def WordAns (c : Nat) (w : World) (e : Ending) (w' : World) : Prop := ∃ x : Nat, e = .returned (.float .f32 x) ∧ x < 4294967296 ∧ CurAt w' c ∧ Kp c w w'
theorem wf_lt {x : Nat} (h : (Lit.float .f32 x).wf = true) : x < 4294967296 := by simpa [Lit.wf] using h

set_option maxHeartbeats 1000000 in
theorem l1Odd_any (c : Nat) (w : World) (hc : CurAt w c) : Calls Try.prog 56 #[.pointer (some ⟨c, 0, none⟩)] w (WordAns c w) := by
  have HC := Lib.hid hc
  clear hc
  go_enter Try.func56, Try.ntmps56
  go_wp2_with fail
  refine (l01Below_any c _ _ HC.out (by decide) (by decide)).mono ?_
  rintro e w1 ⟨x, rfl, hx, hc1, hk1⟩
  have R := Lib.hid (show _ ∧ _ from ⟨hc1, hk1⟩)
  clear hc1 hk1
  go_wp2_with fail
  all_goals
    go_ret
    exact ⟨_, rfl, by first | decide | exact wf_lt (fval_wf ..), R.out.1, by first | exact R.out.2 | exact R.out.2.drewN⟩
set_option maxHeartbeats 1000000 in
theorem l1Some_any (c : Nat) (w : World) (hc : CurAt w c) : Calls Try.prog 58 #[.pointer (some ⟨c, 0, none⟩)] w (WordAns c w) := by
  have HC := Lib.hid hc
  clear hc
  go_enter Try.func58, Try.ntmps58
  go_wp2_with fail
  refine (l01Below_any c _ _ HC.out (by decide) (by decide)).mono ?_
  rintro e w1 ⟨x, rfl, hx, hc1, hk1⟩
  have R := Lib.hid (show _ ∧ _ from ⟨hc1, hk1⟩)
  clear hc1 hk1
  go_wp2_with fail
  all_goals
    refine (l01Below_any c _ _ R.out.1 (by decide) (by decide)).mono ?_
    rintro e w2 ⟨y, rfl, hy, hc2, hk2⟩
    have R2 := Lib.hid (show _ ∧ _ from ⟨hc2, hk2⟩)
    clear hc2 hk2
    go_wp2_with fail
    go_ret
    exact ⟨_, rfl, by first | exact wf_lt (fval_wf ..) | exact wf_lt (floatOfInt_wf ..), R2.out.1, by first | exact R.out.2.trans R2.out.2 | exact (R.out.2.trans R2.out.2).drewN⟩

theorem fromA_lt (k : Int) : fromA k < 4294967296 := by
  unfold fromA fromOk wordOf
  split
  · rename_i h; simp at h; split <;> omega
  · omega
def bases : List Int := [0, 8388608, -8388608, 1065353216, 2139095019]
theorem bases_bd {z : Int} (h : z ∈ bases) : -8388608 ≤ z ∧ z ≤ 2139095019 := by
  simp [bases] at h; omega
theorem bases_holds (w : World) (cs : Array Value) (hcs : cs = #[.int .i64 0, .int .i64 8388608, .int .i64 (-8388608), .int .i64 1065353216, .int .i64 2139095019]) (T : TypeId) : Holds (w.alloc (.cells cs T)) w.heap.size 0 (bases.map (Value.int .i64)) := by
  subst hcs
  intro i hi
  rw [Nat.zero_add, World.cell?_alloc_new]
  simp [bases]
theorem curAt_lt {w : World} {c : Nat} (h : CurAt w c) : c < w.heap.size := by
  obtain ⟨a, len, cap, i, hh, xs, h1, _⟩ := h
  exact (Array.getElem?_eq_some_iff.1 h1).1
/-- A world that keeps the cursor, and all that lies before it. -/
theorem curAt_keep {w w' : World} {c : Nat} (h : CurAt w c) (hb : ∀ k, k ≤ c → w'.heap[k]? = w.heap[k]?) : CurAt w' c := by
  have hlt := curAt_lt h
  obtain ⟨a, len, cap, i, hh, xs, h1, h2, h3, h4, h5, h6⟩ := h
  refine ⟨a, len, cap, i, hh, xs, by rw [hb c (Nat.le_refl _)]; exact h1, h2, h3, ⟨h4.1, ?_⟩, h5, h6⟩
  rcases h4.2 with h0 | ⟨b, off, rfl, hx⟩
  · exact .inl h0
  · by_cases h0 : len = 0
    · exact .inl h0
    · refine .inr ⟨b, off, rfl, fun i hi => ?_⟩
      have hbc := h6 (by omega) b off none rfl
      rw [World.cell?_of_block (w := w) (hb b (by omega))]
      exact hx i hi
theorem curAt_below {w w' : World} {c : Nat} (h : CurAt w c) (hb : Below w.heap.size w w') : CurAt w' c := by
  have hlt := curAt_lt h
  obtain ⟨a, len, cap, i, hh, xs, h1, h2, h3, h4, h5, h6⟩ := h
  exact ⟨a, len, cap, i, hh, xs, by rw [hb.block c hlt]; exact h1, h2, h3, h4.below hb, h5, h6⟩
set_option maxHeartbeats 2000000 in
theorem l1Any_any (c : Nat) (w : World) (hc : CurAt w c) : Calls Try.prog 52 #[.pointer (some ⟨c, 0, none⟩)] w (WordAns c w) := by
  have HC := Lib.hid hc
  clear hc
  go_enter Try.func52, Try.ntmps52
  go_wp2_with fail
  refine (l01Once_any c _ _ HC.out (by decide) (by decide)).mono ?_
  rintro e w1 ⟨b1, rfl, hc1, hk1⟩
  have R := Lib.hid (show _ ∧ _ from ⟨hc1, hk1⟩)
  clear hc1 hk1
  cases b1 with
  | true =>
    go_wp2_with fail
    refine (l1Odd_any c _ R.out.1).mono ?_
    rintro e w2 ⟨x, rfl, hx, hc2, hk2⟩
    have R2 := Lib.hid (show _ ∧ _ from ⟨hc2, hk2⟩)
    clear hc2 hk2
    go_wp2_with fail
    go_ret
    exact ⟨_, rfl, hx, R2.out.1, R.out.2.trans R2.out.2⟩
  | false =>
    go_wp2_with fail
    refine (l01Once_any c _ _ R.out.1 (by decide) (by decide)).mono ?_
    rintro e w2 ⟨b2, rfl, hc2, hk2⟩
    have R2 := Lib.hid (show _ ∧ _ from ⟨hc2, R.out.2.trans hk2⟩)
    clear hc2 hk2 R
    cases b2 with
    | true =>
      go_wp2_with fail
      refine (l01Below_any c _ _ R2.out.1 (by decide) (by decide)).mono ?_
      rintro e w3 ⟨x, rfl, hx, hc3, hk3⟩
      have R3 := Lib.hid (show _ ∧ _ from ⟨hc3, R2.out.2.trans hk3⟩)
      clear hc3 hk3 R2
      go_wp2_with fail
      have hne : w3.heap.size ≠ c := by have := curAt_lt R3.out.1; omega
      have hbel : ∀ o, Below w3.heap.size w3 (w3.alloc o) := fun o => (Below.refl _ _).alloc (Nat.le_refl _) o
      refine (l01Int_any c _ 0 5 bases _ (curAt_below R3.out.1 (hbel _)) (by decide) (by decide) (bases_holds _ _ rfl _) hne).mono ?_
      rintro e w4 ⟨z, hz, rfl, hc4, hk4⟩
      obtain ⟨z1, z2⟩ := bases_bd hz
      have R4 := Lib.hid (show _ ∧ _ from ⟨hc4, (R3.out.2.trans (Kp.of_below (hbel _))).trans hk4⟩)
      clear hc4 hk4 R3 hz hbel hne
      have hx' : (x : Int) < 40 := hx
      go_wp2_with fail
      refine (from_spec _ (by omega) (by omega) _).mono ?_
      rintro e w5 ⟨n5, rfl, rfl⟩
      go_wp2_with fail
      go_ret
      exact ⟨_, rfl, fromA_lt _, R4.out.1, R4.out.2.drewN⟩
    | false =>
      go_wp2_with fail
      refine (l1Some_any c _ R2.out.1).mono ?_
      rintro e w3 ⟨x, rfl, hx, hc3, hk3⟩
      have R3 := Lib.hid (show _ ∧ _ from ⟨hc3, R2.out.2.trans hk3⟩)
      clear hc3 hk3
      go_wp2_with fail
      go_ret
      exact ⟨_, rfl, hx, R3.out.1, R3.out.2⟩

/-- The bytes of a draw that came in. -/
def CodeAt (w : World) (a : Option Addr) (len : Nat) (xs : List Value) : Prop := SlAt w a len xs ∧ AllBytes xs ∧ len ≤ 4611686018427387904
def NewAns (w : World) (e : Ending) (w' : World) : Prop := ∃ c, e = .returned (.pointer (some ⟨c, 0, none⟩)) ∧ w.heap.size ≤ c ∧ CurAt w' c ∧ Below w.heap.size w w'
theorem cur_made (w : World) (a : Option Addr) (len cap : Nat) (h : Int) (xs : List Value) (hx : CodeAt w a len xs) :
    CurAt (w.alloc (.cells #[.slice a len cap, .int .i64 0, .int .i64 h] 72)) w.heap.size := by
  obtain ⟨hs, hb, hlen⟩ := hx
  refine ⟨a, len, cap, 0, h, xs, ?_, by omega, hlen, hs.below ((Below.refl _ _).alloc (Nat.le_refl _) _), hb, fun h0 b o s he => ?_⟩
  · show (w.heap.push _)[w.heap.size]? = _
    simp
  · rcases hs.2 with h | ⟨b', o', rfl, hh⟩
    · omega
    · cases he
      have := hh.lt (by rw [hs.1]; omega)
      omega
set_option maxHeartbeats 1000000 in
theorem l01New_some (b off len cap : Nat) (xs : List Value) (w : World) (hx : CodeAt w (some ⟨b, off, none⟩) len xs) (h0 : 0 < len) : Calls Try.prog 26 #[.slice (some ⟨b, off, none⟩) len cap] w (NewAns w) := by
  have hlen := hx.2.2
  have H := Lib.hid hx
  have hh : Holds w b off xs := by
    rcases hx.1.2 with h | ⟨b', o', he, hh⟩
    · omega
    · cases he; exact hh
  have HH := Lib.hid hh
  clear hh hx
  go_enter Try.func26, Try.ntmps26
  go_wp2_with fail
  go_loop [3, 4] (fun h i => ∃ (k : Nat) (n : Int), k ≤ len ∧ i = .int .i64 k ∧ h = .int .i64 n) (fun _ i => len - (intOf i).toNat)
  case atStart => exact ⟨0, _, by omega, rfl, rfl⟩
  case round =>
    obtain ⟨k, n, hk, rfl, rfl⟩ := hrel
    by_cases hlt : (k : Int) < (len : Int)
    · by_cases h4 : (k : Int) < 4000
      · obtain ⟨u, hu, hxu⟩ := IsBytes_lt H.out.2.1 (i := k) (by rw [H.out.1.1]; omega)
        have hcx : w.cell? ⟨b, off + k, none⟩ = some (.int .u8 u) := by rw [HH.out.at (by rw [H.out.1.1]; omega), hxu]; rfl
        clear hxu
        go_wp2_with fail
        go_round
        case rel => exact ⟨k + 1, _, by omega, by go_num, rfl⟩
        case measure => simp [intOf]; omega
      · go_wp2_with fail
        go_ret
        exact ⟨_, rfl, Nat.le_refl _, cur_made w _ len cap _ xs H.out, (Below.refl _ _).alloc (Nat.le_refl _) _⟩
    · go_wp2_with fail
      go_ret
      exact ⟨_, rfl, Nat.le_refl _, cur_made w _ len cap _ xs H.out, (Below.refl _ _).alloc (Nat.le_refl _) _⟩

set_option maxHeartbeats 1000000 in
theorem l01New_none (a : Option Addr) (cap : Nat) (xs : List Value) (w : World) (hx : CodeAt w a 0 xs) : Calls Try.prog 26 #[.slice a 0 cap] w (NewAns w) := by
  have H := Lib.hid hx
  clear hx
  go_enter Try.func26, Try.ntmps26
  go_wp2_with fail
  go_loop [3, 4] (fun h i => ∃ n : Int, i = .int .i64 0 ∧ h = .int .i64 n) (fun _ i => 1 - (intOf i).toNat)
  case atStart => exact ⟨_, rfl, rfl⟩
  case round =>
    obtain ⟨n, rfl, rfl⟩ := hrel
    go_wp2_with fail
    go_ret
    exact ⟨_, rfl, Nat.le_refl _, cur_made w _ 0 cap _ xs H.out, (Below.refl _ _).alloc (Nat.le_refl _) _⟩
theorem l01New_any (a : Option Addr) (len cap : Nat) (xs : List Value) (w : World) (hx : CodeAt w a len xs) : Calls Try.prog 26 #[.slice a len cap] w (NewAns w) := by
  by_cases h0 : len = 0
  · subst h0; exact l01New_none a cap xs w hx
  · rcases hx.1.2 with h | ⟨b, off, rfl, hh⟩
    · exact absurd h h0
    · exact l01New_some b off len cap xs w hx (by omega)
end Go.Proofs.Ytmfgffgfggkgcaa
