/-
  The reference reads a whole number.
-/
import Derived.Test.YthadnlekadhgpaaDoorSplP
import Derived.Test.YthadnlekadhgpaaDoorNum
namespace Go.Proofs.YthadnlekadhgpaaDoor
open Go.RowKit
def RdAns (v : Int × Bool) (w : World) (e : Ending) (w' : World) : Prop := ∃ n, e = .returned (.tuple #[.int .i64 v.1, .bool v.2]) ∧ w' = w.drewN n
theorem ba_at (l : List UInt8) (i : Nat) (hi : i < l.length) (h : i < (⟨l.toArray⟩ : ByteArray).size) : ((⟨l.toArray⟩ : ByteArray)[i]'h) = l[i]'hi := rfl
theorem ba_size (l : List UInt8) : (⟨l.toArray⟩ : ByteArray).size = l.length := by show l.toArray.size = _; simp
theorem digs_step {n : Nat} {l : List UInt8} {k : Nat} (hk : k < l.length) : digs n (l.drop k) = if 48 ≤ l[k].toNat ∧ l[k].toNat ≤ 57 then digs (10 * n + (l[k].toNat - 48)) (l.drop (k + 1)) else none := by
  rw [List.drop_eq_getElem_cons hk, digs]
theorem neg_case : ∀ (l : List UInt8), rdNeg l = false → (h : 1 < l.length) → l[0].toNat ≠ 45 ∨ l[0].toNat = 45 ∧ l[1].toNat = 45
  | c :: d :: r, hneg, _ => by
    by_cases e : c.toNat = 45
    · right
      have : c = 45 := by rw [← UInt8.toNat_inj]; exact e
      subst this
      refine ⟨rfl, ?_⟩
      have : d = 45 := by simpa [rdNeg] using hneg
      subst this
      rfl
    · exact .inl e
theorem plain_case : ∀ (l : List UInt8), rdNeg l = false → ((l.head? == some 48) && decide (1 < l.length)) = false → (hn : 0 < l.length) →
    l.length ≤ 1 ∨ (1 < l.length ∧ l[0].toNat ≠ 48 ∧ (l[0].toNat ≠ 45 ∨ l[0].toNat = 45 ∧ ∃ h : 1 < l.length, l[1].toNat = 45))
  | [], _, _, hn => absurd hn (by simp)
  | [_], _, _, _ => .inl (by simp)
  | c :: d :: r, hneg, hz0, _ => by
    right
    refine ⟨by simp, ?_, ?_⟩
    · intro e
      have : c = 48 := by rw [← UInt8.toNat_inj]; exact e
      subst this
      simp at hz0
    · by_cases e : c.toNat = 45
      · right
        have : c = 45 := by rw [← UInt8.toNat_inj]; exact e
        subst this
        refine ⟨rfl, by simp, ?_⟩
        have : d = 45 := by simpa [rdNeg] using hneg
        subst this
        rfl
      · exact .inl e
set_option maxHeartbeats 1000000 in
set_option maxRecDepth 100000 in
theorem read_in (s : ByteArray) (l : List UInt8) (hz : s.size = l.length) (hat : ∀ i (hi : i < l.length) (h : i < s.size), s[i]'h = l[i]'hi) (hl : l.length ≤ 1048576) (hneg : rdNeg l = false) (w : World) :
    Calls Tryd.prog 26 #[.string s] w (RdAns (rdN l) w) := by
  have H0 := Lib.hid hat
  clear hat
  by_cases hb : rdBad l = true
  · have E : rdN l = (0, false) := by unfold rdN; rw [if_pos hb]
    rw [E]
    clear E
    by_cases hn1 : (l.length : Int) < 1
    · clear hneg hb
      go_enter Tryd.func26, Tryd.ntmps26
      go_wp2_with fail
      go_ret2
      exact ⟨0, rfl, rfl⟩
    · have hlt : l.length ≤ 1 ∨ 1 < l.length := by omega
      have h17 : (17 : Int) < (l.length : Int) ∨ ¬ (17 : Int) < (l.length : Int) ∧ ∃ h : 0 < l.length, l[0].toNat = 48 ∧ 1 < l.length := by
        by_cases g : (17 : Int) < (l.length : Int)
        · exact .inl g
        · right
          refine ⟨g, by omega, ?_⟩
          unfold rdBad at hb
          rw [decide_eq_false (by omega), decide_eq_false (by omega), Bool.false_or, Bool.false_or, Bool.and_eq_true, decide_eq_true_eq, beq_iff_eq] at hb
          refine ⟨?_, hb.2⟩
          have := hb.1
          rw [List.head?_eq_getElem?, List.getElem?_eq_getElem (by omega)] at this
          injection this with this
          rw [this]; rfl
      have h1 : 1 < l.length := by
        rcases h17 with g | ⟨_, _, _, g⟩
        · omega
        · exact g
      have h1' : (1 : Int) < (l.length : Int) := by omega
      have hnc := neg_case l hneg h1
      obtain ⟨u0, hu0⟩ : ∃ u : Nat, (l[0]'(by omega)).toNat = u := ⟨_, rfl⟩
      obtain ⟨u1, hu1⟩ : ∃ u : Nat, (l[1]'(by omega)).toNat = u := ⟨_, rfl⟩
      have g0 : ∀ h, (s[0]'h).toNat = u0 := fun h => by rw [H0.out 0 (by omega) h, hu0]
      have g1 : ∀ h, (s[1]'h).toNat = u1 := fun h => by rw [H0.out 1 (by omega) h, hu1]
      rw [hu0, hu1] at hnc
      have h17' : (17 : Int) < (l.length : Int) ∨ ¬ (17 : Int) < (l.length : Int) ∧ u0 = 48 := by
        rcases h17 with g | ⟨g, _, g2, _⟩
        · exact .inl g
        · exact .inr ⟨g, by rw [← hu0, g2]⟩
      clear h17 hu0 hu1 hlt hneg hb h1
      rcases h17' with g | ⟨g, rfl⟩
      · rcases hnc with h45 | ⟨rfl, rfl⟩
        · have q1 : ((u0 : Int) == 45) = false := by simp; omega
          clear h45
          go_enter Tryd.func26, Tryd.ntmps26
          go_wp2_with fail
          go_ret2
          exact ⟨0, rfl, rfl⟩
        · go_enter Tryd.func26, Tryd.ntmps26
          go_wp2_with fail
          go_ret2
          exact ⟨0, rfl, rfl⟩
      · clear hnc
        go_enter Tryd.func26, Tryd.ntmps26
        go_wp2_with fail
        go_ret2
        exact ⟨0, rfl, rfl⟩
  · have hb : rdBad l = false := by simpa using hb
    have E : rdN l = match digs 0 l with | some n => ((n : Int), true) | none => (0, false) := by unfold rdN; rw [hb]; rfl
    have hb' := hb
    unfold rdBad at hb'
    simp only [Bool.or_eq_false_iff, decide_eq_false_iff_not] at hb'
    obtain ⟨hn1, hn17, hz0⟩ := hb'
    have hcase := plain_case l hneg hz0 (by omega)
    obtain ⟨u0, hu0⟩ : ∃ u : Nat, (l[0]'(by omega)).toNat = u := ⟨_, rfl⟩
    have g0 : ∀ h, (s[0]'h).toNat = u0 := fun h => by rw [H0.out 0 (by omega) h, hu0]
    rw [hu0] at hcase
    have k1 : ¬ (l.length : Int) < 1 := by omega
    have k2 : ¬ (17 : Int) < (l.length : Int) := by omega
    have HE := Lib.hid E
    have HN := Lib.hid hn17
    clear hb hneg E hz0 hu0 hn17
    rcases hcase with h1 | ⟨h1, h48, h45 | ⟨h45, hlt, hd⟩⟩
    · have h1' : ¬ (1 : Int) < (l.length : Int) := by omega
      clear h1
      go_enter Tryd.func26, Tryd.ntmps26
      go_wp2_with fail
      all_goals
        go_loopw [6, 7] (fun n i wr => ∃ k m q : Nat, k ≤ l.length ∧ i = .int .i64 k ∧ n = .int .i64 m ∧ wr = w.drewN q ∧ (digs m (l.drop k) = digs 0 l ∧ m < 10 ^ k)) (fun _ i _ => l.length - (intOf i).toNat)
        case atStart => exact ⟨0, 0, 0, by omega, rfl, rfl, rfl, rfl, by decide⟩
        case round =>
          obtain ⟨k, m, q, hk, rfl, rfl, rfl, hd, hm⟩ := hrel
          have hm2 : m < 10000000000000000 * 10 := by
            have : 10 ^ k ≤ 10 ^ 17 := Nat.pow_le_pow_right (by decide) (by have := HN.out; omega)
            omega
          by_cases hlt : (k : Int) < (l.length : Int)
          · have hk' : k < l.length := by omega
            obtain ⟨u, hu⟩ : ∃ u : Nat, l[k].toNat = u := ⟨_, rfl⟩
            have gk : ∀ h, (s[k]'h).toNat = u := fun h => by rw [H0.out k hk' h, hu]
            have hds := digs_step (n := m) hk'
            rw [hu, hd] at hds
            have hm3 : m < 10000000000000000 := by
              have : 10 ^ k ≤ 10 ^ 16 := Nat.pow_le_pow_right (by decide) (by have := HN.out; omega)
              omega
            have hu256 : u < 256 := by rw [← hu]; exact l[k].toNat_lt
            by_cases h1 : u < 48
            · rw [if_neg (by omega)] at hds
              have HD := Lib.hid hds
              clear hd hds hm hu
              go_wp2_with fail
              go_ret2
              exact ⟨_, by rw [HE.out, HD.out]; rfl, rfl⟩
            · by_cases h2 : 57 < u
              · rw [if_neg (by omega)] at hds
                have HD := Lib.hid hds
                clear hd hds hm hu
                go_wp2_with fail
                go_ret2
                exact ⟨_, by rw [HE.out, HD.out]; rfl, rfl⟩
              · rw [if_pos (by omega)] at hds
                have HD := Lib.hid (show _ ∧ _ from ⟨hds, hm⟩)
                clear hd hds hm hu
                go_wp2_with fail
                go_roundw
                case rel => exact ⟨k + 1, 10 * m + (u - 48), _, by omega, by go_num, vint (by omega), rfl, HD.out.1.symm, by rw [Nat.pow_succ]; have := HD.out.2; omega⟩
                case measure => simp [intOf]; omega
          · obtain rfl : k = l.length := by omega
            rw [List.drop_length, digs] at hd
            have HD := Lib.hid hd
            clear hd hm
            go_wp2_with fail
            go_ret2
            exact ⟨_, by rw [HE.out, ← HD.out]; rfl, rfl⟩
    · have h1' : (1 : Int) < (l.length : Int) := by omega
      have q1 : ((u0 : Int) == 45) = false := by simp; omega
      have q2 : ((u0 : Int) == 48) = false := by simp; omega
      clear h1 h48 h45
      go_enter Tryd.func26, Tryd.ntmps26
      go_wp2_with fail
      all_goals
        go_loopw [6, 7] (fun n i wr => ∃ k m q : Nat, k ≤ l.length ∧ i = .int .i64 k ∧ n = .int .i64 m ∧ wr = w.drewN q ∧ (digs m (l.drop k) = digs 0 l ∧ m < 10 ^ k)) (fun _ i _ => l.length - (intOf i).toNat)
        case atStart => exact ⟨0, 0, 0, by omega, rfl, rfl, rfl, rfl, by decide⟩
        case round =>
          obtain ⟨k, m, q, hk, rfl, rfl, rfl, hd, hm⟩ := hrel
          have hm2 : m < 10000000000000000 * 10 := by
            have : 10 ^ k ≤ 10 ^ 17 := Nat.pow_le_pow_right (by decide) (by have := HN.out; omega)
            omega
          by_cases hlt : (k : Int) < (l.length : Int)
          · have hk' : k < l.length := by omega
            obtain ⟨u, hu⟩ : ∃ u : Nat, l[k].toNat = u := ⟨_, rfl⟩
            have gk : ∀ h, (s[k]'h).toNat = u := fun h => by rw [H0.out k hk' h, hu]
            have hds := digs_step (n := m) hk'
            rw [hu, hd] at hds
            have hm3 : m < 10000000000000000 := by
              have : 10 ^ k ≤ 10 ^ 16 := Nat.pow_le_pow_right (by decide) (by have := HN.out; omega)
              omega
            have hu256 : u < 256 := by rw [← hu]; exact l[k].toNat_lt
            by_cases h1 : u < 48
            · rw [if_neg (by omega)] at hds
              have HD := Lib.hid hds
              clear hd hds hm hu
              go_wp2_with fail
              go_ret2
              exact ⟨_, by rw [HE.out, HD.out]; rfl, rfl⟩
            · by_cases h2 : 57 < u
              · rw [if_neg (by omega)] at hds
                have HD := Lib.hid hds
                clear hd hds hm hu
                go_wp2_with fail
                go_ret2
                exact ⟨_, by rw [HE.out, HD.out]; rfl, rfl⟩
              · rw [if_pos (by omega)] at hds
                have HD := Lib.hid (show _ ∧ _ from ⟨hds, hm⟩)
                clear hd hds hm hu
                go_wp2_with fail
                go_roundw
                case rel => exact ⟨k + 1, 10 * m + (u - 48), _, by omega, by go_num, vint (by omega), rfl, HD.out.1.symm, by rw [Nat.pow_succ]; have := HD.out.2; omega⟩
                case measure => simp [intOf]; omega
          · obtain rfl : k = l.length := by omega
            rw [List.drop_length, digs] at hd
            have HD := Lib.hid hd
            clear hd hm
            go_wp2_with fail
            go_ret2
            exact ⟨_, by rw [HE.out, ← HD.out]; rfl, rfl⟩
    · have h1' : (1 : Int) < (l.length : Int) := by omega
      subst h45
      have g1 : ∀ h, (s[1]'h).toNat = 45 := fun h => by rw [H0.out 1 hlt h, hd]
      clear h1 h48 hd
      go_enter Tryd.func26, Tryd.ntmps26
      go_wp2_with fail
      all_goals
        go_loopw [6, 7] (fun n i wr => ∃ k m q : Nat, k ≤ l.length ∧ i = .int .i64 k ∧ n = .int .i64 m ∧ wr = w.drewN q ∧ (digs m (l.drop k) = digs 0 l ∧ m < 10 ^ k)) (fun _ i _ => l.length - (intOf i).toNat)
        case atStart => exact ⟨0, 0, 0, by omega, rfl, rfl, rfl, rfl, by decide⟩
        case round =>
          obtain ⟨k, m, q, hk, rfl, rfl, rfl, hd, hm⟩ := hrel
          have hm2 : m < 10000000000000000 * 10 := by
            have : 10 ^ k ≤ 10 ^ 17 := Nat.pow_le_pow_right (by decide) (by have := HN.out; omega)
            omega
          by_cases hlt : (k : Int) < (l.length : Int)
          · have hk' : k < l.length := by omega
            obtain ⟨u, hu⟩ : ∃ u : Nat, l[k].toNat = u := ⟨_, rfl⟩
            have gk : ∀ h, (s[k]'h).toNat = u := fun h => by rw [H0.out k hk' h, hu]
            have hds := digs_step (n := m) hk'
            rw [hu, hd] at hds
            have hm3 : m < 10000000000000000 := by
              have : 10 ^ k ≤ 10 ^ 16 := Nat.pow_le_pow_right (by decide) (by have := HN.out; omega)
              omega
            have hu256 : u < 256 := by rw [← hu]; exact l[k].toNat_lt
            by_cases h1 : u < 48
            · rw [if_neg (by omega)] at hds
              have HD := Lib.hid hds
              clear hd hds hm hu
              go_wp2_with fail
              go_ret2
              exact ⟨_, by rw [HE.out, HD.out]; rfl, rfl⟩
            · by_cases h2 : 57 < u
              · rw [if_neg (by omega)] at hds
                have HD := Lib.hid hds
                clear hd hds hm hu
                go_wp2_with fail
                go_ret2
                exact ⟨_, by rw [HE.out, HD.out]; rfl, rfl⟩
              · rw [if_pos (by omega)] at hds
                have HD := Lib.hid (show _ ∧ _ from ⟨hds, hm⟩)
                clear hd hds hm hu
                go_wp2_with fail
                go_roundw
                case rel => exact ⟨k + 1, 10 * m + (u - 48), _, by omega, by go_num, vint (by omega), rfl, HD.out.1.symm, by rw [Nat.pow_succ]; have := HD.out.2; omega⟩
                case measure => simp [intOf]; omega
          · obtain rfl : k = l.length := by omega
            rw [List.drop_length, digs] at hd
            have HD := Lib.hid hd
            clear hd hm
            go_wp2_with fail
            go_ret2
            exact ⟨_, by rw [HE.out, ← HD.out]; rfl, rfl⟩
theorem read_plain (l : List UInt8) (hl : l.length ≤ 1048576) (hneg : rdNeg l = false) (w : World) : Calls Tryd.prog 26 #[.string ⟨l.toArray⟩] w (RdAns (rdN l) w) :=
  read_in ⟨l.toArray⟩ l (ba_size l) (ba_at l) hl hneg w
theorem rdNeg_tail {c : UInt8} {r : List UInt8} (h : c ≠ 45) : rdNeg (c :: r) = false := by
  unfold rdNeg
  split
  · rename_i heq
    injection heq with e1 e2
    exact absurd e1 h
  · rfl
set_option maxHeartbeats 1000000 in
set_option maxRecDepth 100000 in
theorem read_neg (s : ByteArray) (c : UInt8) (r : List UInt8) (hz : s.size = r.length + 2) (h0 : ∀ h, (s[0]'h).toNat = 45) (h1 : ∀ h, (s[1]'h).toNat = c.toNat) (hx : s.extract 1 (r.length + 2) = ⟨(c :: r).toArray⟩) (hc : c ≠ 45) (hl : r.length ≤ 1048574) (w : World) :
    Calls Tryd.prog 26 #[.string s] w (RdAns (-(rdN (c :: r)).1, (rdN (c :: r)).2 && decide ((rdN (c :: r)).1 ≠ 0)) w) := by
  have HC := Lib.hid (fun w => read_plain (c :: r) (by simp; omega) (rdNeg_tail hc) w)
  have q1 : ((c.toNat : Int) != 45) = true := by
    rw [bne_iff_ne]
    intro e
    apply hc
    rw [← UInt8.toNat_inj]
    have : (45 : UInt8).toNat = 45 := rfl
    omega
  have k1 : (1 : Int) < (r.length : Int) + 2 := by omega
  have hbd := rdN_bd (c :: r)
  clear hc hl
  generalize c.toNat = u at *
  generalize hv : rdN (c :: r) = v at *
  obtain ⟨n, ok⟩ := v
  have hw : wrap64 (-n) = -n := by unfold wrap64; simp only at hbd; omega
  go_enter Tryd.func26, Tryd.ntmps26
  go_wp2_with fail
  refine (HC.out _).mono ?_
  rintro e w1 ⟨q, rfl, rfl⟩
  clear hbd
  have HW := Lib.hid hw
  clear hw
  cases ok with
  | false =>
    go_wp2_with fail
    go_ret2
    refine ⟨_, ?_, rfl⟩
    show Ending.returned (.tuple #[.int .i64 (wrap64 (-n)), .bool false]) = _
    rw [HW.out]; rfl
  | true =>
    go_wp2_with fail
    go_ret2
    refine ⟨_, ?_, rfl⟩
    show Ending.returned (.tuple #[.int .i64 (wrap64 (-n)), .bool (n != 0)]) = _
    rw [HW.out]
    have : (n != 0) = decide (n ≠ 0) := by
      rw [Bool.eq_iff_iff, bne_iff_ne, decide_eq_true_eq]
    rw [this]
    simp
/-- The reference's reading of a whole number. -/
theorem read_any (l : List UInt8) (hl : l.length ≤ 1048576) (w : World) : Calls Tryd.prog 26 #[.string ⟨l.toArray⟩] w (RdAns (rdP l) w) := by
  cases h : rdNeg l with
  | false =>
    have : rdP l = rdN l := by unfold rdP; rw [h]; rfl
    rw [this]
    exact read_plain l (by omega) h w
  | true =>
    match l, h, hl with
    | c0 :: c :: r, h, hl =>
      have hc0 : c0 = 45 := by
        apply Classical.byContradiction
        intro hne
        rw [rdNeg_tail hne] at h
        cases h
      subst hc0
      have hc : c ≠ 45 := by simpa [rdNeg] using h
      have : rdP (45 :: c :: r) = (-(rdN (c :: r)).1, (rdN (c :: r)).2 && decide ((rdN (c :: r)).1 ≠ 0)) := by unfold rdP; rw [h]; rfl
      rw [this]
      refine read_neg ⟨(45 :: c :: r).toArray⟩ c r (by rw [ba_size]; rfl) (fun _ => rfl) (fun _ => rfl) ?_ hc (by simp at hl; omega) w
      have := ext_drop (45 :: c :: r) 1
      simpa using this
    | [], h, _ => cases h
    | [_], h, _ =>
      exfalso
      unfold rdNeg at h
      split at h
      · rename_i heq; cases heq
      · cases h
end Go.Proofs.YthadnlekadhgpaaDoor
