/-
  ParseSingle of the reference: the word whose text came in; 0 and false where no number has that text.
-/
import Derived.Test.YthadnlekadhgpaaDoorSpl
import Derived.Test.YthadnlekadhgpaaDoorPrsI
namespace Go.Proofs.YthadnlekadhgpaaDoor
open Go.RowKit
theorem dw_of_neg {n : Nat} (h : 0 < n) : floatOfInt .f64 (-(n : Int)) = dw true n 1074 := by
  unfold floatOfInt FloatKind.nearest FloatKind.encode
  have e0 : FloatKind.f64.format = Ieee.double := rfl
  simp only [e0, Ieee.Format.write]
  have e1 : decide (-(n : Int) < 0) = true := by simp; omega
  have e2 : (0 : Int) = Ieee.double.leastPlace + ((1074 : Nat) : Int) := by rw [d_lp]; rfl
  rw [e1, Int.natAbs_neg, Int.natAbs_natCast]
  conv => lhs; rw [e2]
  rw [Ieee.double.nearest_put]
  rfl
theorem dw_of_any (m : Int) : ∃ sg a, floatOfInt .f64 m = dw sg a 1074 ∧ a = m.natAbs := by
  by_cases h : m < 0
  · refine ⟨true, m.natAbs, ?_, rfl⟩
    have := dw_of_neg (n := m.natAbs) (by omega)
    rwa [show -((m.natAbs : Nat) : Int) = m by omega] at this
  · refine ⟨false, m.natAbs, ?_, rfl⟩
    have := dw_of_int (n := m.natAbs)
    rwa [show ((m.natAbs : Nat) : Int) = m by omega] at this
theorem inB_iff (x a b : Int) : inB x a b = true ↔ a ≤ x ∧ x ≤ b := by unfold inB; simp
theorem in200 (x : Int) : inB x (-200) 200 = true ∨ inB x (-200) 200 = false := by cases inB x (-200) 200 <;> simp
theorem two_words {w : World} {B : Nat} {v : Value} {a b : List UInt8} (h : w.ownsRow B 9 1 v 2 ([a, b].map strV)) :
    ∃ g cap, v = .slice (some ⟨g, 0, none⟩) 2 cap ∧ w.cell? ⟨g, 0, none⟩ = some (.string ⟨a.toArray⟩) ∧ w.cell? ⟨g, 1, none⟩ = some (.string ⟨b.toArray⟩) := by
  obtain ⟨g, cap, rfl, -⟩ := owns_slice h (by decide)
  have hh := holds_of_owns h
  refine ⟨g, cap, rfl, ?_, ?_⟩
  · have := hh.at (i := 0) (by simp)
    simpa [strV] using this
  · have := hh.at (i := 1) (by simp)
    simpa [strV] using this
theorem own_val {w : World} {B n : Nat} {v : Value} {xs : List Value} (h : w.ownsRow B 9 1 v n xs) : (v = .slice none 0 0 ∧ n = 0) ∨ ∃ b cap, v = .slice (some b) n cap := by
  rcases h.2 with ⟨h1, h2⟩ | ⟨g, cap, -, h1, -⟩
  · exact .inl ⟨h1, h2⟩
  · exact .inr ⟨_, cap, h1⟩
set_option maxHeartbeats 4000000 in
set_option maxRecDepth 100000 in
theorem parse_s_no (l : List UInt8) (hl : l.length ≤ 1048576) (hno : NoText l) (w : World) : Calls Tryd.prog 8 #[.string ⟨l.toArray⟩] w (Failed w) := by
  have h1 : (l == [48]) = false := by
    rw [beq_eq_false_iff_ne]
    intro e
    exact hno 0 (by decide) (by decide) (by rw [e]; rfl)
  have h2 : (l == [45, 48]) = false := by
    rw [beq_eq_false_iff_ne]
    intro e
    exact hno 2147483648 (by decide) (by decide) (by rw [e]; rfl)
  have HNO := Lib.hid (show _ ∧ _ from ⟨hno, hl⟩)
  clear hno hl
  go_enter Tryd.func8, Tryd.ntmps8
  go_wp2_with fail
  refine (split_any l (by have := HNO.out.2; omega) _).mono ?_
  rintro e w1 ⟨v, rfl, hown, hb⟩
  have HB := Lib.hid hb
  clear hb
  by_cases hn : (splP l).length = 2
  · have hne : l ≠ [] := fun e => by subst e; cases hn
    have HNE := Lib.hid hne
    clear hne
    obtain ⟨a0, b0, hab⟩ : ∃ a b, splP l = [a, b] := by
      match splP l, hn with
      | [a, b], _ => exact ⟨a, b, rfl⟩
    have hla : a0.length ≤ l.length ∧ b0.length ≤ l.length := by
      have := splF_len [] l
      have h3 := this a0 (by show a0 ∈ splP l; rw [hab]; simp)
      have h4 := this b0 (by show b0 ∈ splP l; rw [hab]; simp)
      simp at h3 h4
      exact ⟨h3, h4⟩
    rw [hab] at hown
    obtain ⟨g, cap, rfl, c0, c1⟩ := two_words hown
    have HLA := Lib.hid hla
    clear hown hn hab hla
    go_wp2_with fail
    refine (read_any a0 (by have := HLA.out; have := HNO.out.2; omega) _).mono ?_
    rintro e w2 ⟨q2, rfl, rfl⟩
    have hm := rdP_bd a0
    generalize (rdP a0).1 = m at *
    generalize (rdP a0).2 = ok1 at *
    go_wp2_with fail
    refine (read_any b0 (by have := HLA.out; have := HNO.out.2; omega) _).mono ?_
    rintro e w3 ⟨q3, rfl, rfl⟩
    have hp := rdP_bd b0
    generalize (rdP b0).1 = p0 at *
    generalize (rdP b0).2 = ok2 at *
    clear c0 c1
    cases ok1 with
    | false => go_wp2_with fail; go_ret2; exact ⟨rfl, below_drewN' HB.out⟩
    | true =>
      cases ok2 with
      | false => go_wp2_with fail; go_ret2; exact ⟨rfl, below_drewN' HB.out⟩
      | true =>
        have HMP := Lib.hid (show _ ∧ _ from ⟨hm, hp⟩)
        clear hm hp
        have HI1 := Lib.hid (inB_iff p0 (-200) 200)
        have HI2 := Lib.hid (inB_iff m (-16777216) 16777216)
        go_wp2_with fail
        refine (l1In_any p0 (-200) 200 _).mono ?_
        rintro e w4 ⟨rfl, rfl⟩
        generalize inB p0 (-200) 200 = i1 at *
        cases i1 with
        | false => go_wp2_with fail; go_ret2; exact ⟨rfl, below_drewN' HB.out⟩
        | true =>
          go_wp2_with fail
          refine (l1In_any m (-16777216) 16777216 _).mono ?_
          rintro e w5 ⟨rfl, rfl⟩
          generalize inB m (-16777216) 16777216 = i2 at *
          cases i2 with
          | false => go_wp2_with fail; go_ret2; exact ⟨rfl, below_drewN' HB.out⟩
          | true =>
            have hp : -200 ≤ p0 ∧ p0 ≤ 200 := by simpa using HI1.out
            obtain ⟨sg, a, hdi, ha⟩ := dw_of_any m
            have hmb : -16777216 ≤ m ∧ m ≤ 16777216 := by simpa using HI2.out
            have HA := Lib.hid (show a < 9007199254740992 by omega)
            clear hmb
            clear ha HI1 HI2 HMP
            go_wp2_with fail
            go_loopw [10, 8] (fun yv ev wr => ∃ (J : Nat) (p : Int) (q : Nat), yv = .float .f64 (dw sg a J) ∧ ev = .int .i64 p ∧ wr = w1.drewN q ∧ ((J : Int) + p = 1074 + p0 ∧ -200 ≤ p ∧ p ≤ 200)) (fun _ ev _ => (intOf ev).toNat)
            case atStart => exact ⟨1074, p0, _, rfl, rfl, rfl, by omega⟩
            case round =>
              obtain ⟨J, p, q, rfl, rfl, rfl, hJ, hp1, hp2⟩ := hrel
              by_cases hgt : 0 < p
              · have hd : ∀ w, fval .mul .f64 (dw sg a J) 4611686018427387904 w = dw sg a (J + 1) := fval_some (dw_dbl (by have := HA.out; omega) (by omega))
                go_wp2_with fail
                go_roundw
                case rel => exact ⟨J + 1, p - 1, _, rfl, vint (by omega), rfl, by omega⟩
                case measure => simp [intOf]; omega
              · go_wp2_with fail
                have HJ := Lib.hid (show _ ∧ _ from ⟨hJ, hp1⟩)
                clear hJ hp1 hp2
                go_loopw [10, 8] (fun yv ev wr => ∃ (L : Nat) (p : Int) (q : Nat), yv = .float .f64 (dw sg a L) ∧ ev = .int .i64 p ∧ wr = w1.drewN q ∧ ((L : Int) + p = 1074 + p0 ∧ -200 ≤ p ∧ p ≤ 0)) (fun _ ev _ => (-(intOf ev)).toNat)
                case atStart => exact ⟨J, p, _, rfl, rfl, rfl, by have := HJ.out; omega⟩
                case round =>
                  clear hgt HJ
                  obtain ⟨L, p, q, rfl, rfl, rfl, hL, hp1, hp2⟩ := hrel
                  by_cases hlt : p < 0
                  · obtain ⟨L', rfl⟩ : ∃ L', L = L' + 1 := ⟨L - 1, by omega⟩
                    have hd : ∀ w, fval .quo .f64 (dw sg a (L' + 1)) 4611686018427387904 w = dw sg a L' := fval_some (dw_half (by have := HA.out; omega) (by omega))
                    go_wp2_with fail
                    go_roundw
                    case rel => exact ⟨L', p + 1, _, rfl, vint (by omega), rfl, by omega⟩
                    case measure => simp [intOf]; omega
                  · obtain rfl : p = 0 := by omega
                    obtain rfl : L = (1074 + p0).toNat := by omega
                    clear hL hp1 hp2
                    go_wp2_with fail
                    obtain ⟨Y, hYe⟩ : ∃ Y, cval .f64 (dw sg a (1074 + p0).toNat) .f32 (w1.drewN q) = Y := ⟨_, rfl⟩
                    have hY : Y < 4294967296 := by rw [← hYe]; exact cval_lt _ (dw_wf _ _ _) _
                    rw [hYe]
                    clear hYe
                    refine (format_s Y hY _).mono ?_
                    rintro e w9 ⟨rfl, hb9⟩
                    have HB9 := Lib.hid (HB.out.trans ((below_drewN_trans hb9).mono HB.out.size))
                    have hne := noText_of HNO.out.1 HNE.out hY
                    clear hb9
                    go_wp2_with fail
                    go_ret2
                    exact ⟨rfl, HB9.out⟩
  · have hn' : (((splP l).length : Int) != 2) = true := by rw [bne_iff_ne]; omega
    have hov := own_val hown
    clear hown hn
    generalize (splP l).length = n at *
    rcases hov with ⟨rfl, -⟩ | ⟨b, cap, rfl⟩
    · go_wp2_with fail
      go_ret2
      exact ⟨rfl, HB.out⟩
    · go_wp2_with fail
      go_ret2
      exact ⟨rfl, HB.out⟩
theorem itoa_sign {x : Nat} {o : Nat} (ho : 0 < o) : sgnT x ++ Lib.itoa (o : Int) = Lib.itoa (if 2147483648 ≤ x then -(o : Int) else (o : Int)) := by
  unfold sgnT
  by_cases h : 2147483648 ≤ x
  · rw [if_pos h, if_pos h, Lib.itoa_neg o ho, Lib.itoa_nonneg]; rfl
  · rw [if_neg h, if_neg h]; rfl
theorem spl_one (a : List UInt8) (h : ∀ x ∈ a, x ≠ 112) : splP a = [a] := by
  have := splF_plain a h [] []
  unfold splP
  rw [List.append_nil, List.nil_append] at this
  rw [this, splF]
theorem beq_spl {l m : List UInt8} (h : (splP l).length = 2) (hm : ∀ x ∈ m, x ≠ 112) : (l == m) = false := by
  rw [beq_eq_false_iff_ne]
  intro e
  rw [e, spl_one m hm] at h
  cases h
set_option maxHeartbeats 4000000 in
set_option maxRecDepth 100000 in
theorem parse_s_yes (x : Nat) (h : x < 4294967296) (hf : finB x = true) (w : World) : Calls Tryd.prog 8 #[.string ⟨(fmtS x).toArray⟩] w (Parsed x w) := by
  have hr : x % 2147483648 < 2139095040 := by unfold finB at hf; simpa using hf
  have hlen := fmt_len x
  by_cases h0 : x % 2147483648 = 0
  · have hx : x = 0 ∨ x = 2147483648 := by omega
    clear hlen hr h0 hf h
    rcases hx with rfl | rfl
    · rw [show fmtS 0 = [48] from by decide +kernel]
      go_enter Tryd.func8, Tryd.ntmps8
      go_wp2_with fail
      go_ret2
      exact ⟨rfl, Below.refl _ _⟩
    · rw [show fmtS 2147483648 = [45, 48] from by decide +kernel]
      have hn := negS_up (r := 0) (by decide)
      go_enter Tryd.func8, Tryd.ntmps8
      go_wp2_with fail
      go_ret2
      exact ⟨rfl, Below.refl _ _⟩
  · obtain ⟨r, hre⟩ : ∃ r, x % 2147483648 = r := ⟨_, rfl⟩
    rw [hre] at hr h0
    have hol := Nat.lt_of_le_of_lt (odd_le (mOf r)) (mOf_lt r)
    have hop := odd_split (mOf_pos h0) (by have := mOf_lt r; omega)
    have ho1 : 0 < oddM (mOf r) := by have := hop.2.1; omega
    have hb := expR_bd h0 hr
    have hl : fmtS x = Lib.itoa (if 2147483648 ≤ x then -(oddM (mOf r) : Int) else (oddM (mOf r) : Int)) ++ 112 :: Lib.itoa (expR r) := by
      rw [← itoa_sign ho1]
      unfold fmtS fmtR
      rw [hf, if_pos rfl, hre, if_neg h0, List.append_assoc]
      rfl
    have hnar : floatToFloatBits .f64 (dw (decide (2147483648 ≤ x)) (oddM (mOf r)) (1074 + expR r).toNat) .f32 = some x := by
      have hc := ctz_lt (mOf_pos h0) (mOf_lt r)
      have ht := tOf_le hr
      have hj : (1074 + expR r).toNat = tOf r + ctzM (mOf r) + 925 := by unfold expR; omega
      have hv : oddM (mOf r) * 2 ^ (tOf r + ctzM (mOf r)) = mOf r * 2 ^ tOf r := by
        conv => rhs; rw [hop.1]
        rw [Nat.mul_assoc, ← Nat.pow_add, Nat.add_comm (tOf r)]
      rw [hj, dw_narrow (by omega) (by omega) (by rw [hv]; exact rep_mt hr), hv, put_mt _ hr]
      congr 1
      by_cases hx : 2147483648 ≤ x
      · rw [decide_eq_true hx, if_pos rfl]; omega
      · rw [decide_eq_false hx, if_neg (by decide)]; omega
    have hdi : floatOfInt .f64 (if 2147483648 ≤ x then -(oddM (mOf r) : Int) else (oddM (mOf r) : Int)) = dw (decide (2147483648 ≤ x)) (oddM (mOf r)) 1074 := by
      by_cases hx : 2147483648 ≤ x
      · rw [if_pos hx, decide_eq_true hx]; exact dw_of_neg ho1
      · rw [if_neg hx, decide_eq_false hx]; exact dw_of_int
    have hMb : -16777216 ≤ (if 2147483648 ≤ x then -(oddM (mOf r) : Int) else (oddM (mOf r) : Int)) ∧ (if 2147483648 ≤ x then -(oddM (mOf r) : Int) else (oddM (mOf r) : Int)) ≤ 16777216 := by
      split <;> omega
    clear hop ho1 h0 hr hre
    generalize (if 2147483648 ≤ x then -(oddM (mOf r) : Int) else (oddM (mOf r) : Int)) = m at *
    generalize expR r = p0 at *
    generalize oddM (mOf r) = a at *
    generalize decide (2147483648 ≤ x) = sg at *
    have hsp : splP (fmtS x) = [Lib.itoa m, Lib.itoa p0] := by
      rw [hl]; exact spl_two _ _ (itoa_chars _) (itoa_chars _)
    have hcv := cval_some hnar
    have h1 : (fmtS x == [48]) = false := beq_spl (by rw [hsp]; rfl) (by decide)
    have h2 : (fmtS x == [45, 48]) = false := beq_spl (by rw [hsp]; rfl) (by decide)
    have hr1 := rdP_itoa m (by omega) (by omega)
    have hr2 := rdP_itoa p0 (by omega) (by omega)
    have hl1 := Lib.itoa_length_le m (by omega) (by omega)
    have hl2 := Lib.itoa_length_le p0 (by omega) (by omega)
    have hq1 : inB p0 (-200) 200 = true := (inB_iff _ _ _).2 (by omega)
    have hq2 : inB m (-16777216) 16777216 = true := (inB_iff _ _ _).2 hMb
    have HX := Lib.hid (show _ ∧ _ from ⟨h, hf⟩)
    have HA := Lib.hid (show a < 9007199254740992 by omega)
    have HS := Lib.hid (show ∀ w, Calls Tryd.prog 25 #[.string ⟨(fmtS x).toArray⟩, .int .u8 112] w (fun e w' => ∃ v, e = .returned v ∧ w'.ownsRow w.heap.size 9 1 v 2 ([Lib.itoa m, Lib.itoa p0].map strV) ∧ Below w.heap.size w w') from
      fun w => (split_any (fmtS x) (by omega) w).mono (fun e w' ⟨v, g1, g2, g3⟩ => ⟨v, g1, by rw [hsp] at g2; exact g2, g3⟩))
    obtain ⟨l, hle⟩ : ∃ l, fmtS x = l := ⟨_, rfl⟩
    rw [hle] at HS h1 h2 ⊢
    have HLE := Lib.hid hle
    generalize hi1 : Lib.itoa m = s1 at *
    generalize hi2 : Lib.itoa p0 = s2 at *
    have HR := Lib.hid (show rdP s1 = (m, true) ∧ rdP s2 = (p0, true) ∧ s1.length ≤ 1048576 ∧ s2.length ≤ 1048576 from ⟨hr1, hr2, by omega, by omega⟩)
    have HQ := Lib.hid (show _ ∧ _ from ⟨hq1, hq2⟩)
    have hp : -200 ≤ p0 ∧ p0 ≤ 200 := by omega
    clear hi1 hi2 hr1 hr2 hl1 hl2 hq1 hq2 hle hsp hnar hl hMb hb hol hlen h hf
    go_enter Tryd.func8, Tryd.ntmps8
    go_wp2_with fail
    refine (HS.out _).mono ?_
    rintro e w1 ⟨v, rfl, hown, hb⟩
    have HB := Lib.hid hb
    clear hb
    obtain ⟨g, cap, rfl, c0, c1⟩ := two_words hown
    clear hown
    go_wp2_with fail
    refine (read_any s1 HR.out.2.2.1 _).mono ?_
    rintro e w2 ⟨q2, rfl, rfl⟩
    rw [HR.out.1]
    go_wp2_with fail
    refine (read_any s2 HR.out.2.2.2 _).mono ?_
    rintro e w3 ⟨q3, rfl, rfl⟩
    rw [HR.out.2.1]
    clear c0 c1
    go_wp2_with fail
    refine (l1In_any p0 (-200) 200 _).mono ?_
    rintro e w4 ⟨rfl, rfl⟩
    rw [HQ.out.1]
    go_wp2_with fail
    refine (l1In_any m (-16777216) 16777216 _).mono ?_
    rintro e w5 ⟨rfl, rfl⟩
    rw [HQ.out.2]
    go_wp2_with fail
    go_loopw [10, 8] (fun yv ev wr => ∃ (J : Nat) (p : Int) (q : Nat), yv = .float .f64 (dw sg a J) ∧ ev = .int .i64 p ∧ wr = w1.drewN q ∧ ((J : Int) + p = 1074 + p0 ∧ -200 ≤ p ∧ p ≤ 200)) (fun _ ev _ => (intOf ev).toNat)
    case atStart => exact ⟨1074, p0, _, rfl, rfl, rfl, by omega⟩
    case round =>
      obtain ⟨J, p, q, rfl, rfl, rfl, hJ, hp1, hp2⟩ := hrel
      by_cases hgt : 0 < p
      · have hd : ∀ w, fval .mul .f64 (dw sg a J) 4611686018427387904 w = dw sg a (J + 1) := fval_some (dw_dbl (by have := HA.out; omega) (by omega))
        go_wp2_with fail
        go_roundw
        case rel => exact ⟨J + 1, p - 1, _, rfl, vint (by omega), rfl, by omega⟩
        case measure => simp [intOf]; omega
      · go_wp2_with fail
        have HJ := Lib.hid (show _ ∧ _ from ⟨hJ, hp1⟩)
        clear hJ hp1 hp2
        go_loopw [10, 8] (fun yv ev wr => ∃ (L : Nat) (p : Int) (q : Nat), yv = .float .f64 (dw sg a L) ∧ ev = .int .i64 p ∧ wr = w1.drewN q ∧ ((L : Int) + p = 1074 + p0 ∧ -200 ≤ p ∧ p ≤ 0)) (fun _ ev _ => (-(intOf ev)).toNat)
        case atStart => exact ⟨J, p, _, rfl, rfl, rfl, by have := HJ.out; omega⟩
        case round =>
          clear hgt HJ
          obtain ⟨L, p, q, rfl, rfl, rfl, hL, hp1, hp2⟩ := hrel
          by_cases hlt : p < 0
          · obtain ⟨L', rfl⟩ : ∃ L', L = L' + 1 := ⟨L - 1, by omega⟩
            have hd : ∀ w, fval .quo .f64 (dw sg a (L' + 1)) 4611686018427387904 w = dw sg a L' := fval_some (dw_half (by have := HA.out; omega) (by omega))
            go_wp2_with fail
            go_roundw
            case rel => exact ⟨L', p + 1, _, rfl, vint (by omega), rfl, by omega⟩
            case measure => simp [intOf]; omega
          · obtain rfl : p = 0 := by omega
            obtain rfl : L = (1074 + p0).toNat := by omega
            clear hL hp1 hp2
            go_wp2_with fail
            refine (format_s x HX.out.1 _).mono ?_
            rintro e w9 ⟨rfl, hb9⟩
            have HB9 := Lib.hid (HB.out.trans ((below_drewN_trans hb9).mono HB.out.size))
            clear hb9
            rw [HLE.out]
            go_wp2_with fail
            go_ret2
            exact ⟨rfl, below_drewN' HB9.out⟩
end Go.Proofs.YthadnlekadhgpaaDoor
