/-
  The text of a sample and of a whole number, by the reference.
-/
import Derived.Test.YtmfgffgfggkgcaaFmtS
import Derived.Test.YtmfgffgfggkgcaaCx
namespace Go.Proofs.Ytmfgffgfggkgcaa
open Go.RowKit
/-- The text of a number that need not be finite. -/
def sgl8 (x : Nat) : List UInt8 :=
  if (FloatKind.f32.format.order x x != some .eq) = true then [110, 97, 110] else if finB x = true then fmtS x else if (FloatKind.f32.format.order x 0 == some .gt) = true then [105, 110, 102] else [45, 105, 110, 102]
theorem fmtS_len (x : Nat) : (fmtS x).length ≤ 44 := by
  unfold fmtS
  split
  · rename_i hf
    have hr : x % 2147483648 < 2139095040 := by unfold finB at hf; simpa using hf
    have hs : (sgnT x).length ≤ 1 := by unfold sgnT; split <;> simp
    rw [List.length_append]
    unfold fmtR
    split
    · simp; omega
    · rename_i h0
      have h1 := Lib.itoa_length_le (oddM (mOf (x % 2147483648)) : Int) (by omega) (by have := odd_le (mOf (x % 2147483648)); have := mOf_lt (x % 2147483648); omega)
      have hb := expR_bd h0 hr
      have h2 := Lib.itoa_length_le (expR (x % 2147483648)) (by omega) (by omega)
      rw [List.length_append, List.length_append]
      simp
      omega
  · simp
theorem sgl8_len (x : Nat) : (sgl8 x).length ≤ 44 := by
  unfold sgl8
  have := fmtS_len x
  split
  · simp
  · split
    · exact this
    · split <;> simp
set_option maxHeartbeats 1000000 in
theorem l8Single_any (x : Nat) (h : x < 4294967296) (w : World) : Calls Try.prog 47 #[.float .f32 x] w (StrAns (sgl8 x) w) := by
  cases hn : (FloatKind.f32.format.order x x != some .eq) with
  | true =>
    have E := Lib.hid (show sgl8 x = [110, 97, 110] by unfold sgl8; rw [if_pos hn])
    clear h
    go_enter Try.func47, Try.ntmps47
    go_wp2_with fail
    go_ret
    exact ⟨by rw [E.out]; rfl, Below.refl _ _⟩
  | false =>
    cases hf : finB x with
    | true =>
      have E := Lib.hid (show sgl8 x = fmtS x by unfold sgl8; rw [if_neg (by rw [hn]; decide), if_pos hf])
      have H := Lib.hid (show _ ∧ _ from ⟨h, hf⟩)
      clear h hf
      go_enter Try.func47, Try.ntmps47
      go_wp2_with (go_at_call 53; refine (l1Finite_any _ _).mono ?_; rintro e w' ⟨n, rfl, rfl⟩; rw [H.out.2])
      refine (format_s x H.out.1 _).mono ?_
      rintro e w' ⟨rfl, hb⟩
      have HB := Lib.hid (below_drewN_trans hb)
      clear hb
      go_wp2_with fail
      go_ret
      exact ⟨by rw [E.out]; rfl, HB.out⟩
    | false =>
      have H := Lib.hid hf
      clear h
      cases hg : (FloatKind.f32.format.order x 0 == some .gt) with
      | true =>
        have E := Lib.hid (show sgl8 x = [105, 110, 102] by unfold sgl8; rw [if_neg (by rw [hn]; decide), if_neg (by rw [hf]; decide), if_pos hg])
        clear hf
        go_enter Try.func47, Try.ntmps47
        go_wp2_with (go_at_call 53; refine (l1Finite_any _ _).mono ?_; rintro e w' ⟨n, rfl, rfl⟩; rw [H.out])
        go_ret
        exact ⟨by rw [E.out]; rfl, below_drewN' (Below.refl _ _)⟩
      | false =>
        have E := Lib.hid (show sgl8 x = [45, 105, 110, 102] by unfold sgl8; rw [if_neg (by rw [hn]; decide), if_neg (by rw [hf]; decide), if_neg (by rw [hg]; decide)])
        clear hf
        go_enter Try.func47, Try.ntmps47
        go_wp2_with (go_at_call 53; refine (l1Finite_any _ _).mono ?_; rintro e w' ⟨n, rfl, rfl⟩; rw [H.out])
        go_ret
        exact ⟨by rw [E.out]; rfl, below_drewN' (Below.refl _ _)⟩
/-- The text of a sample. -/
def pt8 (z : Nat × Nat) : List UInt8 := sgl8 z.1 ++ ([32] ++ sgl8 z.2)
theorem pt8_len (z : Nat × Nat) : (pt8 z).length ≤ 89 := by
  have := sgl8_len z.1
  have := sgl8_len z.2
  unfold pt8
  rw [List.length_append, List.length_append]
  simp
  omega
set_option maxHeartbeats 1000000 in
theorem l8Point_any (z : Nat × Nat) (h1 : z.1 < 4294967296) (h2 : z.2 < 4294967296) (w : World) : Calls Try.prog 34 #[.complex .f32 z.1 z.2] w (StrAns (pt8 z) w) := by
  obtain ⟨x, y⟩ := z
  have E := Lib.hid (show pt8 (x, y) = sgl8 x ++ ([32] ++ sgl8 y) from rfl)
  have H := Lib.hid (show x < 4294967296 ∧ y < 4294967296 from ⟨h1, h2⟩)
  have hl1 := sgl8_len x
  have hl2 := sgl8_len y
  have HX := Lib.hid (l8Single_any x H.out.1)
  have HY := Lib.hid (l8Single_any y H.out.2)
  generalize sgl8 x = s1 at *
  generalize sgl8 y = s2 at *
  clear h1 h2
  go_enter Try.func34, Try.ntmps34
  go_wp2_with fail
  refine (HX.out _).mono ?_
  rintro e w1 ⟨rfl, hb1⟩
  have HB1 := Lib.hid hb1
  clear hb1
  go_wp2_with fail
  refine (HY.out _).mono ?_
  rintro e w2 ⟨rfl, hb2⟩
  have HB2 := Lib.hid (HB1.out.trans (hb2.mono HB1.out.size))
  clear hb2
  go_wp2_with fail
  go_ret
  refine ⟨?_, HB2.out⟩
  rw [E.out, show (⟨#[32]⟩ : ByteArray) = ⟨[32].toArray⟩ from rfl, ba_append, ba_append]
  simp
set_option maxHeartbeats 1000000 in
theorem l8Int_any (n : Int) (h0 : -4096 ≤ n) (h1 : n ≤ 4096) (w : World) : Calls Try.prog 35 #[.int .i64 n] w (StrAns (Lib.itoa n) w) := by
  have hlt : ¬ n < -9223372036854775807 := by omega
  have H := Lib.hid (show _ ∧ _ from ⟨h0, h1⟩)
  clear h0 h1
  go_enter Try.func35, Try.ntmps35
  go_wp2_with fail
  refine (l1Number_any n (by have := H.out; omega) (by have := H.out; omega) _).mono ?_
  rintro e w1 ⟨rfl, hb⟩
  have HB := Lib.hid hb
  clear hb
  go_wp2_with fail
  go_ret
  exact ⟨rfl, HB.out⟩
end Go.Proofs.Ytmfgffgfggkgcaa
