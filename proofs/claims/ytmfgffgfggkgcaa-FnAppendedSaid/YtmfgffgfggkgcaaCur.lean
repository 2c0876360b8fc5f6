/-
  The reference's cursor over the bytes of a draw: one byte taken from it. The cursor lies in a block of its own.
-/
import Derived.Test.YtmfgffgfggkgcaaRows
import Derived.Test.YtmfgffgfggkgcaaKp
import Derived.Test.YtmfgffgfggkgcaaFl
import Derived.WalkSpells
import Derived.WalkLawsBesides
import Derived.Deep.QuietTactic
import Derived.BigQuiet
namespace Go.Proofs.Ytmfgffgfggkgcaa
open Go.RowKit

def AllBytes (xs : List Value) : Prop := ∀ x ∈ xs, ∃ u : Nat, u < 256 ∧ x = byteV u

/-- Block c is a cursor. -/
def CurAt (w : World) (c : Nat) : Prop :=
  ∃ (a : Option Addr) (len cap : Nat) (i : Nat) (h : Int) (xs : List Value), w.heap[c]? = some (.cells #[.slice a len cap, .int .i64 i, .int .i64 h] 72 (0, 0)) ∧ i ≤ len ∧ len ≤ 4611686018427387904 ∧
    SlAt w a len xs ∧ AllBytes xs ∧ (0 < len → ∀ b o s, a = some ⟨b, o, s⟩ → b < c)

theorem slAt_heap {w w' : World} {a : Option Addr} {len : Nat} {xs : List Value} {c : Nat} (h : SlAt w a len xs) (hk : Kp c w w') (hc : 0 < len → ∀ b o s, a = some ⟨b, o, s⟩ → b ≠ c) : SlAt w' a len xs := by
  refine ⟨h.1, ?_⟩
  rcases h.2 with h0 | ⟨b, off, rfl, hh⟩
  · exact .inl h0
  · by_cases h0 : len = 0
    · exact .inl h0
    · exact .inr ⟨b, off, rfl, hk.holds hh (hc (by omega) b off none rfl)⟩

def ByteAns (c : Nat) (w : World) (e : Ending) (w' : World) : Prop :=
  ∃ x : Nat, e = .returned (.int .i64 x) ∧ x < 256 ∧ CurAt w' c ∧ Kp c w w'

theorem cur_next {w w' : World} {c : Nat} {a : Option Addr} {len cap i i' : Nat} {h h' : Int} {xs : List Value}
    (_hc : w.heap[c]? = some (.cells #[.slice a len cap, .int .i64 i, .int .i64 h] 72 (0, 0))) (hl : len ≤ 4611686018427387904) (hs : SlAt w a len xs) (hb : AllBytes xs) (hne : 0 < len → ∀ b o s, a = some ⟨b, o, s⟩ → b < c)
    (hw : w'.heap[c]? = some (.cells #[.slice a len cap, .int .i64 i', .int .i64 h'] 72 (0, 0))) (hi : i' ≤ len) (hk : Kp c w w') : CurAt w' c :=
  ⟨a, len, cap, i', h', xs, hw, hi, hl, slAt_heap hs hk (fun h0 b o s he => Nat.ne_of_lt (hne h0 b o s he)), hb, hne⟩

set_option maxHeartbeats 1000000 in
theorem l01Byte_any (c : Nat) (w : World) (hc : CurAt w c) : Calls Try.prog 50 #[.pointer (some ⟨c, 0, none⟩)] w (ByteAns c w) := by
  obtain ⟨a, len, cap, i, h, xs, hcell, hi, hlen, hs, hb, hne⟩ := hc
  have c0 : w.cell? ⟨c, 0, none⟩ = some (.slice a len cap) := cell_of_row w c 0 _ _ _ hcell
  have c1 : w.cell? ⟨c, 1, none⟩ = some (.int .i64 i) := cell_of_row w c 1 _ _ _ hcell
  have c2 : w.cell? ⟨c, 2, none⟩ = some (.int .i64 h) := cell_of_row w c 2 _ _ _ hcell
  have f1 : w.frozen? ⟨c, 1, none⟩ = false := frozen_of_row w c 1 _ _ hcell
  have f2 : w.frozen? ⟨c, 2, none⟩ = false := frozen_of_row w c 2 _ _ hcell
  have H := Lib.hid (show _ ∧ _ ∧ _ ∧ _ from ⟨hcell, hs, hb, hne⟩)
  have hm := i64_and255
  by_cases hlt : i < len
  · rcases hs.2 with h0 | ⟨b, off, rfl, hh⟩
    · omega
    · have hbc : b ≠ c := Nat.ne_of_lt (hne (by omega) b off none rfl)
      obtain ⟨u, hu, hxu⟩ := IsBytes_lt hb (i := i) (by rw [hs.1]; exact hlt)
      have hcx : w.cell? ⟨b, off + i, none⟩ = some (.int .u8 u) := by rw [hh.at (by rw [hs.1]; exact hlt), hxu]; rfl
      clear hcell hs hb hne hxu hh
      have hlt' : (i : Int) < (len : Int) := by omega
      go_enter Try.func50, Try.ntmps50
      go_wp2_with fail
      go_quiet (fail)
      go_wp2_with fail
      go_quiet (fail)
      go_wp2_with fail
      go_quiet (fail)
      go_wp2_with fail
      go_ret
      refine ⟨(( _ : Int) % 256).toNat, ret_int (Int.toNat_of_nonneg (Int.emod_nonneg _ (by decide))).symm, by omega, ?_, ?_⟩
      · refine cur_next (i' := i + 1) H.out.1 hlen H.out.2.1 H.out.2.2.1 H.out.2.2.2 (h' := ?_) ?_ (by omega) ?_
        rotate_left
        · exact heap_setCell_same _ _ _ _ _ _ (heap_setCell_same _ _ _ _ _ _ H.out.1)
        · (repeat (first | exact Kp.refl _ _ | apply Kp.setCell | apply Kp.drewN | apply Kp.drew | apply Kp.alloc))
      · (repeat (first | exact Kp.refl _ _ | apply Kp.setCell | apply Kp.drewN | apply Kp.drew | apply Kp.alloc))
  · clear hcell hs hb hne
    have hlt' : ¬ (i : Int) < (len : Int) := by omega
    go_enter Try.func50, Try.ntmps50
    go_wp2_with fail
    go_quiet (fail)
    go_wp2_with fail
    go_quiet (fail)
    go_wp2_with fail
    go_ret
    refine ⟨(( _ : Int) % 256).toNat, ret_int (Int.toNat_of_nonneg (Int.emod_nonneg _ (by decide))).symm, by omega, ?_, ?_⟩
    · refine cur_next (i' := i) H.out.1 hlen H.out.2.1 H.out.2.2.1 H.out.2.2.2 (h' := ?_) ?_ hi ?_
      rotate_left
      · exact heap_setCell_same _ _ _ _ _ _ H.out.1
      · (repeat (first | exact Kp.refl _ _ | apply Kp.setCell | apply Kp.drewN | apply Kp.drew | apply Kp.alloc))
    · (repeat (first | exact Kp.refl _ _ | apply Kp.setCell | apply Kp.drewN | apply Kp.drew | apply Kp.alloc))

/-- A number below n, drawn. -/
def BelowAns (c : Nat) (n : Int) (w : World) (e : Ending) (w' : World) : Prop :=
  ∃ x : Nat, e = .returned (.int .i64 x) ∧ (x : Int) < n ∧ CurAt w' c ∧ Kp c w w'

set_option maxHeartbeats 1000000 in
theorem l01Below_small (c : Nat) (n : Int) (w : World) (hc : CurAt w c) (h1 : 1 ≤ n) (h2 : n ≤ 256) : Calls Try.prog 39 #[.pointer (some ⟨c, 0, none⟩), .int .i64 n] w (BelowAns c n w) := by
  have HC := Lib.hid hc
  clear hc
  go_enter Try.func39, Try.ntmps39
  go_wp2_with fail
  refine (l01Byte_any c _ HC.out).mono ?_
  rintro e w1 ⟨x, rfl, hx, hc1, hk1⟩
  have R := Lib.hid (show _ ∧ _ from ⟨hc1, hk1⟩)
  clear hc1 hk1
  go_wp2_with fail
  go_ret
  refine ⟨((x : Int) % n).toNat, ret_int (Int.toNat_of_nonneg (Int.emod_nonneg _ (by omega))).symm, ?_, R.out.1, R.out.2⟩
  rw [Int.toNat_of_nonneg (Int.emod_nonneg _ (by omega))]
  exact Int.emod_lt_of_pos _ (by omega)
set_option maxHeartbeats 1000000 in
theorem l01Below_great (c : Nat) (n : Int) (w : World) (hc : CurAt w c) (h1 : 256 < n) (h2 : n ≤ 4294967296) : Calls Try.prog 39 #[.pointer (some ⟨c, 0, none⟩), .int .i64 n] w (BelowAns c n w) := by
  have HC := Lib.hid hc
  clear hc
  go_enter Try.func39, Try.ntmps39
  go_wp2_with fail
  refine (l01Byte_any c _ HC.out).mono ?_
  rintro e w1 ⟨x1, rfl, hx1, hc1, hk1⟩
  have R1 := Lib.hid (show _ ∧ _ from ⟨hc1, hk1⟩)
  clear hc1 hk1
  go_wp2_with fail
  refine (l01Byte_any c _ R1.out.1).mono ?_
  rintro e w2 ⟨x2, rfl, hx2, hc2, hk2⟩
  have R2 := Lib.hid (show _ ∧ _ from ⟨hc2, hk2⟩)
  clear hc2 hk2
  go_wp2_with fail
  refine (l01Byte_any c _ R2.out.1).mono ?_
  rintro e w3 ⟨x3, rfl, hx3, hc3, hk3⟩
  have R3 := Lib.hid (show _ ∧ _ from ⟨hc3, hk3⟩)
  clear hc3 hk3
  go_wp2_with fail
  refine (l01Byte_any c _ R3.out.1).mono ?_
  rintro e w4 ⟨x4, rfl, hx4, hc4, hk4⟩
  have R4 := Lib.hid (show _ ∧ _ from ⟨hc4, hk4⟩)
  clear hc4 hk4
  go_wp2_with fail
  go_ret
  have hnn : 0 ≤ ((x1 : Int) * 16777216 + (x2 : Int) * 65536 + (x3 : Int) * 256 + (x4 : Int)) % n := Int.emod_nonneg _ (by omega)
  refine ⟨(((x1 : Int) * 16777216 + (x2 : Int) * 65536 + (x3 : Int) * 256 + (x4 : Int)) % n).toNat, ret_int (Int.toNat_of_nonneg hnn).symm, ?_, R4.out.1, (R1.out.2.trans R2.out.2).trans (R3.out.2.trans R4.out.2)⟩
  rw [Int.toNat_of_nonneg hnn]
  exact Int.emod_lt_of_pos _ (by omega)
theorem l01Below_any (c : Nat) (n : Int) (w : World) (hc : CurAt w c) (h1 : 1 ≤ n) (h2 : n ≤ 4294967296) : Calls Try.prog 39 #[.pointer (some ⟨c, 0, none⟩), .int .i64 n] w (BelowAns c n w) := by
  by_cases h : n ≤ 256
  · exact l01Below_small c n w hc h1 h
  · exact l01Below_great c n w hc (by omega) h2

def OnceAns (c : Nat) (w : World) (e : Ending) (w' : World) : Prop := ∃ b : Bool, e = .returned (.bool b) ∧ CurAt w' c ∧ Kp c w w'
theorem l01Once_any (c : Nat) (n : Int) (w : World) (hc : CurAt w c) (h1 : 1 ≤ n) (h2 : n ≤ 4294967296) : Calls Try.prog 55 #[.pointer (some ⟨c, 0, none⟩), .int .i64 n] w (OnceAns c w) := by
  have HC := Lib.hid hc
  clear hc
  go_enter Try.func55, Try.ntmps55
  go_wp2_with fail
  refine (l01Below_any c _ _ HC.out h1 h2).mono ?_
  rintro e w1 ⟨x, rfl, hx, hc1, hk1⟩
  have R := Lib.hid (show _ ∧ _ from ⟨hc1, hk1⟩)
  clear hc1 hk1
  go_wp2_with fail
  go_ret
  exact ⟨_, rfl, R.out.1, R.out.2⟩
/-- A number out of a list of numbers. -/
def PickAns (c : Nat) (zs : List Int) (w : World) (e : Ending) (w' : World) : Prop := ∃ z ∈ zs, e = .returned (.int .i64 z) ∧ CurAt w' c ∧ Kp c w w'
set_option maxHeartbeats 1000000 in
theorem l01Int_any (c b off cap : Nat) (zs : List Int) (w : World) (hc : CurAt w c) (hz : 1 ≤ zs.length) (hz2 : zs.length ≤ 256) (hb : Holds w b off (zs.map (Value.int .i64))) (hbc : b ≠ c) :
    Calls Try.prog 38 #[.pointer (some ⟨c, 0, none⟩), .slice (some ⟨b, off, none⟩) zs.length cap] w (PickAns c zs w) := by
  have HC := Lib.hid (show _ ∧ _ from ⟨hc, hb⟩)
  clear hc hb
  generalize hn : zs.length = n at *
  have HN := Lib.hid hn
  clear hn
  go_enter Try.func38, Try.ntmps38
  go_wp2_with fail
  refine (l01Below_any c _ _ HC.out.1 (by omega) (by omega)).mono ?_
  rintro e w1 ⟨x, rfl, hx, hc1, hk1⟩
  have hl : x < zs.length := by have := HN.out; omega
  have hcell : w1.cell? ⟨b, off + x, none⟩ = some (.int .i64 zs[x]) := by
    rw [(hk1.holds HC.out.2 hbc).at (by simpa using hl), List.getElem_map]
  have R := Lib.hid (show _ ∧ _ ∧ _ from ⟨hc1, hk1, List.getElem_mem hl⟩)
  clear hc1 hk1
  generalize zs[x] = z at *
  clear hl
  go_wp2_with fail
  go_ret
  exact ⟨z, R.out.2.2, rfl, R.out.1, R.out.2.1⟩
end Go.Proofs.Ytmfgffgfggkgcaa
