/-
  ParseSingle of the program: the word whose text came in; 0 and false where no number has that text. The library's tables and errors lie as they are laid.
-/
import Derived.Test.YthadnlekadhgpaaDoorPrsQ
import Derived.Test.YthadnlekadhgpaaDoorNum
import Derived.Test.YthadnlekadhgpaaDoorLdW
namespace Go.Proofs.YthadnlekadhgpaaDoor
open Go.RowKit
structure LibAt (w : World) : Prop where
  tabs : TabsAt w
  errs : ErrsAt w
theorem LibAt.keep {w w' : World} (h : LibAt w) (hb : Below w.heap.size w w') : LibAt w' := ⟨h.tabs.keep hb, h.errs.keep hb⟩
def NoText (l : List UInt8) : Prop := ∀ x, x < 4294967296 → finB x = true → fmtS x ≠ l
def Failed (w : World) (e : Ending) (w' : World) : Prop := e = .returned (.tuple #[.float .f32 0, .bool false]) ∧ Below w.heap.size w w'
theorem noText_of {l : List UInt8} (h : NoText l) (hl : l ≠ []) {x : Nat} (hx : x < 4294967296) : (fmtS x == l) = false := by
  rw [beq_eq_false_iff_ne]
  cases hf : finB x with
  | true => exact h x hx hf
  | false =>
    intro e
    apply hl
    rw [← e]
    unfold fmtS
    rw [hf]; rfl
theorem zero_f32 (x : Nat) : (FloatKind.f32.format.order x 0 == some .eq) = true ∨ (FloatKind.f32.format.order x 0 == some .eq) = false := by
  cases (FloatKind.f32.format.order x 0 == some .eq) <;> simp
theorem LibAt.drew {w : World} {n : Nat} (h : LibAt w) : LibAt (w.drewN n) := h.keep (below_drewN' (Below.refl _ _))
theorem str_ne {a b : List UInt8} (h : (a == b) = false) : ((⟨a.toArray⟩ : ByteArray) != (⟨b.toArray⟩ : ByteArray)) = true := by rw [bne, str_eq, h]; rfl
theorem str_same {a b : List UInt8} (h : (a == b) = true) : ((⟨a.toArray⟩ : ByteArray) != (⟨b.toArray⟩ : ByteArray)) = false := by rw [bne, str_eq, h]; rfl
theorem num_nil : (numP (cutP (Lib.trimPrefix [] [45])).1).2 = false := by decide +kernel
set_option maxHeartbeats 2000000 in
set_option maxRecDepth 100000 in
theorem parse_i_no (l : List UInt8) (hl : l.length ≤ 1048576) (hno : NoText l) (w : World) (hw : LibAt w) : Calls Tryd.prog 9 #[.string ⟨l.toArray⟩] w (Failed w) := by
  have HW := Lib.hid (show _ ∧ _ ∧ _ from ⟨hw, hno, hl⟩)
  clear hw hno hl
  have HC := Lib.hid (fun w => Tryd.strings_CutPrefix ⟨l.toArray⟩ ⟨#[45]⟩ w)
  have HTL := Lib.hid (trim_len l)
  go_enter Tryd.func9, Tryd.ntmps9
  go_wp2_with fail
  refine (HC.out _).mono ?_
  rintro e w1 ⟨rfl, rfl⟩
  have HNN := Lib.hid (show l = [] → (numP (cutP (Lib.trimPrefix l [45])).1).2 = false from fun h => by subst h; exact num_nil)
  have HZL := Lib.hid (show l = [] → Lib.trimPrefix l [45] = [] from fun h => by subst h; rfl)
  generalize Lib.trimPrefix l [45] = t at *
  generalize Lib.hasPrefix l [45] = ng at *
  by_cases ht : t = [48]
  · have hq : (t == [48]) = true := by rw [ht]; rfl
    have HNL := Lib.hid (show l ≠ [] from fun h => by rw [HZL.out h] at ht; cases ht)
    clear ht
    cases ng with
    | false =>
      go_wp2_with (first
        | (go_at_call 32; go_in)
        | fail)
      have HXX := Lib.hid (show Below w1.heap.size w1 w1 ∧ LibAt w1 from ⟨Below.refl _ _, HW.out.1⟩)
      refine (format_i 0 (by decide) _ HXX.out.2.tabs).mono ?_
      rintro e w9 ⟨rfl, hb9⟩
      have HB9 := Lib.hid (HXX.out.1.trans (hb9.mono HXX.out.1.size))
      have hne := noText_of HW.out.2.1 HNL.out (show 0 < 4294967296 from by decide)
      clear hb9
      go_wp2_with fail
      go_ret2
      exact ⟨rfl, HB9.out⟩
    | true =>
      have hyn := negS_lt (x := 0) (by decide)
      obtain ⟨yn, hyn2⟩ : ∃ yn, Op.negFloat .f32 0 = yn := ⟨_, rfl⟩
      rw [hyn2] at hyn
      rcases zero_f32 yn with hz | hz
      · go_wp2_with (first
          | (go_at_call 32; go_in)
          | fail)
        have HXX := Lib.hid (show Below w1.heap.size w1 w1 ∧ LibAt w1 from ⟨Below.refl _ _, HW.out.1⟩)
        refine (format_i 2147483648 (by decide) _ HXX.out.2.tabs).mono ?_
        rintro e w9 ⟨rfl, hb9⟩
        have HB9 := Lib.hid (HXX.out.1.trans (hb9.mono HXX.out.1.size))
        have hne := noText_of HW.out.2.1 HNL.out (show 2147483648 < 4294967296 from by decide)
        clear hb9
        go_wp2_with fail
        go_ret2
        exact ⟨rfl, HB9.out⟩
      · go_wp2_with (first
          | (go_at_call 32; go_in)
          | fail)
        have HXX := Lib.hid (show Below w1.heap.size w1 w1 ∧ LibAt w1 from ⟨Below.refl _ _, HW.out.1⟩)
        refine (format_i yn hyn _ HXX.out.2.tabs).mono ?_
        rintro e w9 ⟨rfl, hb9⟩
        have HB9 := Lib.hid (HXX.out.1.trans (hb9.mono HXX.out.1.size))
        have hne := noText_of HW.out.2.1 HNL.out (show yn < 4294967296 from hyn)
        clear hb9
        go_wp2_with fail
        go_ret2
        exact ⟨rfl, HB9.out⟩
  · have hq : (t == [48]) = false := by simpa using ht
    have hcl := cutP_len t
    have HCL := Lib.hid (show (cutP t).1.length ≤ 1048576 ∧ (cutP t).2.1.length ≤ 1048576 ∧ t.length ≤ 4611686018427387904 by have := HW.out.2.2; have := HTL.out; omega)
    clear ht hcl
    go_wp2_with fail
    refine (cut_any t HCL.out.2.2 _).mono ?_
    rintro e w2 ⟨n2, rfl, rfl⟩
    generalize (cutP t).2.2 = c3 at *
    generalize (cutP t).2.1 = c2 at *
    generalize (cutP t).1 = c1 at *
    have H2 := Lib.hid (show LibAt (w1.drewN n2) from HW.out.1.drew)
    go_wp2_with fail
    refine (number_any c1 HCL.out.1 _ H2.out.tabs H2.out.errs).mono ?_
    rintro e w3 ⟨rfl, hb3⟩
    have H3 := Lib.hid (show Below w1.heap.size w1 w3 ∧ LibAt w3 from ⟨below_drewN_trans hb3, H2.out.keep hb3⟩)
    clear hb3
    generalize (numP c1).1 = m1 at *
    generalize (numP c1).2 = b1 at *
    go_wp2_with fail
    refine (number_any c2 HCL.out.2.1 _ H3.out.2.tabs H3.out.2.errs).mono ?_
    rintro e w4 ⟨rfl, hb4⟩
    have H4 := Lib.hid (show Below w1.heap.size w1 w4 ∧ LibAt w4 from ⟨H3.out.1.trans (hb4.mono H3.out.1.size), H3.out.2.keep hb4⟩)
    clear hb4
    generalize (numP c2).1 = m2 at *
    generalize (numP c2).2 = b2 at *
    cases b1 with
    | false => go_wp2_with fail; go_ret2; exact ⟨rfl, H4.out.1⟩
    | true =>
      have HNL := Lib.hid (show l ≠ [] from fun h => by have := HNN.out h; cases this)
      cases b2 with
      | false => go_wp2_with fail; go_ret2; exact ⟨rfl, H4.out.1⟩
      | true =>
        by_cases r1 : m1 < 1
        · go_wp2_with fail; go_ret2; exact ⟨rfl, H4.out.1⟩
        by_cases r2 : 16777216 ≤ m1
        · go_wp2_with fail; go_ret2; exact ⟨rfl, H4.out.1⟩
        by_cases r3 : m2 < -200
        · go_wp2_with fail; go_ret2; exact ⟨rfl, H4.out.1⟩
        by_cases r4 : 200 < m2
        · go_wp2_with fail; go_ret2; exact ⟨rfl, H4.out.1⟩
        obtain ⟨m, hm⟩ : ∃ m : Nat, m = m1.toNat := ⟨_, rfl⟩
        have hdi : floatOfInt .f64 m1 = dw false m 1074 := by rw [show m1 = (m : Int) by omega]; exact dw_of_int
        have HR := Lib.hid (show 0 < m ∧ m < 16777216 ∧ (-200 ≤ m2 ∧ m2 ≤ 200) by omega)
        clear hm
        go_wp2_with fail
        refine (ldexp_any m m2 HR.out.1 HR.out.2.1 HR.out.2.2 _).mono ?_
        rintro e w5 ⟨n5, rfl, rfl⟩
        clear r1 r2 r3 r4 hdi
        have hY := cval_lt (dw false m (1074 + m2).toNat) (dw_wf _ _ _) (w4.drewN n5)
        obtain ⟨Y, hYe⟩ : ∃ Y, cval .f64 (dw false m (1074 + m2).toNat) .f32 (w4.drewN n5) = Y := ⟨_, rfl⟩
        rw [hYe] at hY
        cases ng with
        | false =>
          go_wp2_with (first
            | (go_at_call 32; go_in)
            | fail)
          have HXX := Lib.hid (show ∀ n, Below w1.heap.size w1 (w4.drewN n) ∧ LibAt (w4.drewN n) from fun n => ⟨below_drewN' H4.out.1, H4.out.2.drew⟩)
          refine (format_i Y hY _ (HXX.out _).2.tabs).mono ?_
          rintro e w9 ⟨rfl, hb9⟩
          have HB9 := Lib.hid ((HXX.out _).1.trans (hb9.mono (HXX.out _).1.size))
          have hne := noText_of HW.out.2.1 HNL.out (show Y < 4294967296 from hY)
          clear hb9
          go_wp2_with fail
          go_ret2
          exact ⟨rfl, HB9.out⟩
        | true =>
          have hyn := negS_lt hY
          obtain ⟨yn, hyn2⟩ : ∃ yn, Op.negFloat .f32 Y = yn := ⟨_, rfl⟩
          rw [hyn2] at hyn
          rcases zero_f32 yn with hz | hz
          · go_wp2_with (first
              | (go_at_call 32; go_in)
              | fail)
            have HXX := Lib.hid (show ∀ n, Below w1.heap.size w1 (w4.drewN n) ∧ LibAt (w4.drewN n) from fun n => ⟨below_drewN' H4.out.1, H4.out.2.drew⟩)
            refine (format_i 2147483648 (by decide) _ (HXX.out _).2.tabs).mono ?_
            rintro e w9 ⟨rfl, hb9⟩
            have HB9 := Lib.hid ((HXX.out _).1.trans (hb9.mono (HXX.out _).1.size))
            have hne := noText_of HW.out.2.1 HNL.out (show 2147483648 < 4294967296 from by decide)
            clear hb9
            go_wp2_with fail
            go_ret2
            exact ⟨rfl, HB9.out⟩
          · go_wp2_with (first
              | (go_at_call 32; go_in)
              | fail)
            have HXX := Lib.hid (show ∀ n, Below w1.heap.size w1 (w4.drewN n) ∧ LibAt (w4.drewN n) from fun n => ⟨below_drewN' H4.out.1, H4.out.2.drew⟩)
            refine (format_i yn hyn _ (HXX.out _).2.tabs).mono ?_
            rintro e w9 ⟨rfl, hb9⟩
            have HB9 := Lib.hid ((HXX.out _).1.trans (hb9.mono (HXX.out _).1.size))
            have hne := noText_of HW.out.2.1 HNL.out (show yn < 4294967296 from hyn)
            clear hb9
            go_wp2_with fail
            go_ret2
            exact ⟨rfl, HB9.out⟩
theorem num_itoa (n : Int) (h0 : -100000000000000000 < n) (h1 : n < 100000000000000000) : numP (Lib.itoa n) = (n, true) := by
  unfold numP
  rw [atoi_itoa n h0 h1]
  simp
def Parsed (x : Nat) (w : World) (e : Ending) (w' : World) : Prop := e = .returned (.tuple #[.float .f32 x, .bool true]) ∧ Below w.heap.size w w'
set_option maxHeartbeats 2000000 in
set_option maxRecDepth 100000 in
theorem parse_i_yes (x : Nat) (h : x < 4294967296) (hf : finB x = true) (w : World) (hw : LibAt w) : Calls Tryd.prog 9 #[.string ⟨(fmtS x).toArray⟩] w (Parsed x w) := by
  obtain ⟨hs1, hs2⟩ := fmt_sign hf
  have hr : x % 2147483648 < 2139095040 := by unfold finB at hf; simpa using hf
  have hlen := fmt_len x
  have HC := Lib.hid (show ∀ w, Calls Tryd.prog 28 #[.string ⟨(fmtS x).toArray⟩, .string ⟨#[45]⟩] w fun e w' => e = .returned (.tuple #[.string ⟨(Lib.trimPrefix (fmtS x) [45]).toArray⟩, .bool (Lib.hasPrefix (fmtS x) [45])]) ∧ w' = w from fun w => Tryd.strings_CutPrefix ⟨(fmtS x).toArray⟩ ⟨#[45]⟩ w)
  obtain ⟨l, hl⟩ : ∃ l, fmtS x = l := ⟨_, rfl⟩
  rw [hl] at HC hs1 hs2 hlen ⊢
  have HX := Lib.hid (show _ ∧ _ ∧ _ from ⟨h, hf, hl⟩)
  have HW := Lib.hid hw
  have hz := zero_test hf
  have hxr : x = if 2147483648 ≤ x then x % 2147483648 + 2147483648 else x % 2147483648 := by split <;> omega
  clear hf hl hw
  generalize hre : x % 2147483648 = r at *
  have HTL := Lib.hid (show (fmtR r).length ≤ l.length by rw [← hs2]; exact trim_len l)
  rw [hs1, hs2] at HC
  have HQ0 := Lib.hid (show _ ∧ _ ∧ _ ∧ _ ∧ _ from ⟨hxr, hz, hr, hre, h⟩)
  clear hs1 hs2 hxr hz hr hre h
  go_enter Tryd.func9, Tryd.ntmps9
  go_wp2_with fail
  refine (HC.out _).mono ?_
  rintro e w1 ⟨rfl, rfl⟩
  obtain ⟨hxr, hz, hr, hre, h⟩ := HQ0.out
  clear HC HQ0
  have HLN := Lib.hid hlen
  clear hlen
  by_cases h0 : r = 0
  · subst h0
    have ht : (fmtR 0 == [48]) = true := by decide +kernel
    generalize fmtR 0 = t at *
    have HBW := Lib.hid (show Below w1.heap.size w1 w1 from Below.refl _ _)
    by_cases hx : 2147483648 ≤ x
    · rw [if_pos hx] at hxr
      rw [decide_eq_true hx]
      have hn := negS_up (r := 0) (by decide)
      have hz2 : (FloatKind.f32.format.order 2147483648 0 == some .eq) = true := by decide +kernel
      clear hx hz hre h
      obtain rfl : x = 2147483648 := hxr
      go_wp2_with (first
        | (go_at_call 32; go_in)
        | fail)
      refine (format_i 2147483648 HX.out.1 _ HW.out.tabs).mono ?_
      rintro e w9 ⟨rfl, hb9⟩
      have HB9 := Lib.hid (HBW.out.trans (hb9.mono HBW.out.size))
      clear hb9
      rw [HX.out.2.2]
      go_wp2_with fail
      go_ret2
      exact ⟨rfl, HB9.out⟩
    · rw [if_neg hx] at hxr
      rw [decide_eq_false hx]
      clear hx hz hre h
      subst hxr
      go_wp2_with (first
        | (go_at_call 32; go_in)
        | fail)
      refine (format_i 0 HX.out.1 _ HW.out.tabs).mono ?_
      rintro e w9 ⟨rfl, hb9⟩
      have HB9 := Lib.hid (HBW.out.trans (hb9.mono HBW.out.size))
      clear hb9
      rw [HX.out.2.2]
      go_wp2_with fail
      go_ret2
      exact ⟨rfl, HB9.out⟩
  · have ht : (fmtR r == [48]) = false := by simpa using fmtR_zero h0
    have hcut := fmt_cut h0
    have hb := expR_bd h0 hr
    have hol := Nat.lt_of_le_of_lt (odd_le (mOf r)) (mOf_lt r)
    have hop := odd_split (mOf_pos h0) (by have := mOf_lt r; omega)
    have ho1 : 1 ≤ oddM (mOf r) := by have := hop.2.1; omega
    have hn1 := num_itoa (oddM (mOf r) : Int) (by omega) (by omega)
    have hn2 := num_itoa (expR r) (by omega) (by omega)
    have hl1 := Lib.itoa_length_le (oddM (mOf r) : Int) (by omega) (by omega)
    have hl2 := Lib.itoa_length_le (expR r) (by omega) (by omega)
    have hcv := cval_some (fmt_narrow h0 hr)
    rw [decide_eq_false h0] at hz
    clear hop
    generalize oddM (mOf r) = o at *
    generalize expR r = E at *
    have HCA := Lib.hid (fun w => cut_any (fmtR r) (by have := HTL.out; have := HLN.out; omega) w)
    rw [hcut] at HCA
    generalize fmtR r = t at *
    generalize hi1 : Lib.itoa (o : Int) = s1 at *
    generalize hi2 : Lib.itoa E = s2 at *
    clear hi1 hi2 hcut
    obtain ⟨oi, hoi⟩ : ∃ oi : Int, (o : Int) = oi := ⟨_, rfl⟩
    have hdi : floatOfInt .f64 oi = dw false o 1074 := by rw [← hoi]; exact dw_of_int
    rw [hoi] at hn1
    have r1 : ¬ oi < 1 := by omega
    have r2 : ¬ 16777216 ≤ oi := by omega
    have r3 : ¬ E < -200 := by omega
    have r4 : ¬ 200 < E := by omega
    have HR := Lib.hid (show 0 < o ∧ o < 16777216 ∧ (-200 ≤ E ∧ E ≤ 200) ∧ s1.length ≤ 1048576 ∧ s2.length ≤ 1048576 ∧ r < 2147483648 by omega)
    have HN1 := Lib.hid hn1
    have HN2 := Lib.hid hn2
    clear hoi ho1 hol hb hl1 hl2 hn1 hn2 hr h0 hre h
    have HQ := Lib.hid (show _ ∧ _ from ⟨hxr, hz⟩)
    clear hxr hz
    generalize hng : decide (2147483648 ≤ x) = ng at *
    go_wp2_with fail
    refine (HCA.out _).mono ?_
    rintro e w2 ⟨n2, rfl, rfl⟩
    have H2 := Lib.hid (show LibAt (w1.drewN n2) from HW.out.drew)
    go_wp2_with fail
    refine (number_any s1 HR.out.2.2.2.1 _ H2.out.tabs H2.out.errs).mono ?_
    rintro e w3 ⟨rfl, hb3⟩
    rw [HN1.out]
    have H3 := Lib.hid (show Below w1.heap.size w1 w3 ∧ LibAt w3 from ⟨below_drewN_trans hb3, H2.out.keep hb3⟩)
    clear hb3
    go_wp2_with fail
    refine (number_any s2 HR.out.2.2.2.2.1 _ H3.out.2.tabs H3.out.2.errs).mono ?_
    rintro e w4 ⟨rfl, hb4⟩
    rw [HN2.out]
    have H4 := Lib.hid (show Below w1.heap.size w1 w4 ∧ LibAt w4 from ⟨H3.out.1.trans (hb4.mono H3.out.1.size), H3.out.2.keep hb4⟩)
    clear hb4
    go_wp2_with fail
    refine (ldexp_any o E HR.out.1 HR.out.2.1 HR.out.2.2.1 _).mono ?_
    rintro e w5 ⟨n5, rfl, rfl⟩
    clear hdi r1 r2 r3 r4
    cases ng with
    | false =>
      obtain rfl : x = r := by have := HQ.out.1; rwa [if_neg (of_decide_eq_false hng)] at this
      clear hng
      go_wp2_with (first
        | (go_at_call 32; go_in)
        | fail)
      refine (format_i x HX.out.1 _ H4.out.2.drew.tabs).mono ?_
      rintro e w9 ⟨rfl, hb9⟩
      have HB9 := Lib.hid (H4.out.1.trans ((below_drewN_trans hb9).mono H4.out.1.size))
      clear hb9
      rw [HX.out.2.2]
      go_wp2_with fail
      go_ret2
      exact ⟨rfl, HB9.out⟩
    | true =>
      have hxe : x = r + 2147483648 := by have := HQ.out.1; rwa [if_pos (of_decide_eq_true hng)] at this
      have hn := negS_up HR.out.2.2.2.2.2
      rw [← hxe] at hn
      have hz := HQ.out.2
      clear hng hxe
      go_wp2_with (first
        | (go_at_call 32; go_in)
        | fail)
      refine (format_i x HX.out.1 _ H4.out.2.drew.tabs).mono ?_
      rintro e w9 ⟨rfl, hb9⟩
      have HB9 := Lib.hid (H4.out.1.trans ((below_drewN_trans hb9).mono H4.out.1.size))
      clear hb9
      rw [HX.out.2.2]
      go_wp2_with fail
      go_ret2
      exact ⟨rfl, HB9.out⟩
end Go.Proofs.YthadnlekadhgpaaDoor
