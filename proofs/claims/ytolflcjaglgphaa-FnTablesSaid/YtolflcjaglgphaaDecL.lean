/-
  The walk of FnDecided: it returns true of every draw.
-/
import Derived.Test.YtolflcjaglgphaaTurn
import Derived.Test.YtolflcjaglgphaaEnc
import Derived.Test.YtolflcjaglgphaaDecQ
import Derived.Test.YtolflcjaglgphaaGridL
import Derived.Test.YtolflcjaglgphaaAt
import Derived.Deep.DeepCutAuto
namespace Go.Proofs.Ytolflcjaglgphaa
open Go.RowKit

set_option maxHeartbeats 1000000 in
/-- laws.ints answers true of the same numbers. -/
theorem intsEq_any (a : Option Addr) (ca : Nat) (b : Option Addr) (cb len : Nat) (xs : List Int) (w : World) (hlen : len ≤ 1048576) (ha : SlAt w a len (ints xs)) (hb : SlAt w b len (ints xs)) :
    Calls Try.prog 25 #[.slice a len ca, .slice b len cb] w (YesAns w) := by
  have hl : xs.length = len := by simpa [ints] using ha.1
  have HA := Lib.hid (show _ ∧ _ from ⟨ha, hb⟩)
  clear ha hb
  go_enter Try.func25, Try.ntmps25
  go_wp2_with fail
  go_loopw [13] (fun i wr => ∃ k m : Nat, k ≤ len ∧ i = .int .i64 k ∧ wr = w.drewN m) (fun i _ => len - (intOf i).toNat)
  case atStart => exact ⟨0, 0, by omega, rfl, rfl⟩
  case round =>
    obtain ⟨k, m, hk, rfl, rfl⟩ := hrel
    by_cases hlt : (k : Int) < (len : Int)
    · have hk' : k < xs.length := by omega
      rcases HA.out.1.2 with h | ⟨g, off, rfl, hh⟩
      · omega
      · rcases HA.out.2.2 with h | ⟨g2, o2, rfl, hh2⟩
        · omega
        · have c1 : w.cell? ⟨g, off + k, none⟩ = some (.int .i64 xs[k]) := by rw [hh.at (by simpa [ints] using hk')]; simp [ints]
          have c2 : w.cell? ⟨g2, o2 + k, none⟩ = some (.int .i64 xs[k]) := by rw [hh2.at (by simpa [ints] using hk')]; simp [ints]
          clear hh hh2
          generalize xs[k] = z at *
          go_wp2_with fail
          go_quiet (fail)
          go_wp2
          go_roundw
          case rel => exact ⟨k + 1, _, by omega, by go_num, rfl⟩
          case measure => simp [intOf]; omega
    · go_wp2_with fail
      go_ret
      exact ⟨_, rfl, rfl⟩
theorem slat_own {w : World} {base e n cap : Nat} {a : Option Addr} {xs : List Value} (h : w.ownsRow base e 1 (.slice a n cap) n xs) : SlAt w a n xs := by
  obtain ⟨_, _, he, hs⟩ := own_slat h
  cases he
  exact hs
def GridAns (s p : Nat) (w : World) (e : Ending) (w' : World) : Prop :=
  ∃ v0 v1, e = .returned (.tuple #[.agg #[v0, v1], .bool true]) ∧ w'.ownsRow w.heap.size 33 1 v0 p ((gps s).map cx) ∧ w'.ownsRow w.heap.size 3 1 v1 p (ints (lbs s)) ∧ Below w.heap.size w w'
theorem grid_ip (s p : Nat) (h1 : 1 ≤ s) (h8 : s ≤ 8) (hp : s * s = p) (w : World) : Calls Try.prog 8 #[.int .i64 (s : Int)] w (GridAns s p w) := by
  subst hp
  refine (grid_impl (s : Int) w).mono fun e w' h => ?_
  rcases h with ⟨_, _, v0, v1, h2, h3, h4, h5⟩ | ⟨hn, _⟩
  · rw [Int.toNat_natCast] at h3 h4
    exact ⟨v0, v1, h2, h3, by rw [gl_lbs h1 h8] at h4; exact h4, h5⟩
  · omega
/-- The table as the law goes on from it. -/
structure DS (w : World) (a0 : Option Addr) (len0 : Nat) (xs : List Value) (s p c4 B : Nat) (v0 v1 : Value) (x : World) : Prop where
  bel : Below w.heap.size w x
  code : CodeAt x a0 len0 xs
  o0 : x.ownsRow B 33 1 v0 p ((gps s).map cx)
  o1 : x.ownsRow B 3 1 v1 p (ints (lbs s))
  var : TabVar x c4 v0 v1
theorem CodeAt.below {w w' : World} {a : Option Addr} {n : Nat} {xs : List Value} (h : CodeAt w a n xs) (hb : Below w.heap.size w w') : CodeAt w' a n xs := ⟨h.1.below hb, h.2⟩
theorem DS.below {w x x' : World} {a0 : Option Addr} {len0 s p c4 B : Nat} {xs : List Value} {v0 v1 : Value} (h : DS w a0 len0 xs s p c4 B v0 v1 x) (hb : Below x.heap.size x x') : DS w a0 len0 xs s p c4 B v0 v1 x' :=
  ⟨h.bel.trans (hb.mono h.bel.size), h.code.below hb, own_below h.o0 hb, own_below h.o1 hb, h.var.below hb⟩
theorem DS.drewN {w x : World} {a0 : Option Addr} {len0 s p c4 B n : Nat} {xs : List Value} {v0 v1 : Value} (h : DS w a0 len0 xs s p c4 B v0 v1 x) : DS w a0 len0 xs s p c4 B v0 v1 (x.drewN n) :=
  h.below (below_drewN' (Below.refl _ _))

set_option maxHeartbeats 4000000 in
set_option maxRecDepth 100000 in
theorem fnDecided_walk {w : World} (a0 : Option Addr) (len0 cap0 : Nat) (z0 : List Int) (w0 : IsRow w a0 len0 cap0 z0) :
    Calls Try.prog 5 #[.slice a0 len0 cap0] w fun e w' => e = .returned (.bool true) ∧ Below w.heap.size w w' := by
  by_cases hl : len0 ≤ 1048576
  · obtain ⟨xs, hx⟩ := code_of_row w0 hl
    have HX := Lib.hid hx
    clear w0 hx
    obtain ⟨i0, hic, hz0, hz1, hz2⟩ := info_parts cxInfo
    obtain ⟨i1, hii, hy0, hy1, hy2⟩ := info_parts intInfo
    go_enter Try.func5, Try.ntmps5
    go_wp2_with fail
    refine (at_any _ _ _ _ 1 _ HX.out hl (by decide)).mono ?_
    rintro e w1 ⟨u, rfl, hu, rfl⟩
    go_wp2_with fail
    obtain ⟨s, hs, h1, h8⟩ : ∃ s : Nat, (1 + (u : Int) % 8) = (s : Int) ∧ 1 ≤ s ∧ s ≤ 8 := ⟨1 + u % 8, by omega, by omega, by omega⟩
    rw [hs]
    clear hs hu
    obtain ⟨p, hp⟩ : ∃ p, s * s = p := ⟨_, rfl⟩
    have hpp : (s : Int) * (s : Int) = (p : Int) := by rw [← hp]; exact (Int.natCast_mul s s).symm
    have hp64 : p ≤ 64 := by rw [← hp]; exact Nat.mul_le_mul h8 h8
    have hp1 : 1 ≤ p := by rw [← hp]; exact Nat.mul_le_mul h1 h1
    have HT := Lib.hid (fun ms => tells h1 h8 hp ms)
    have HG := Lib.hid (show _ ∧ _ ∧ _ ∧ _ from ⟨words_gps h1 h8, words_gts h1 h8, tab_gps h1 h8, tab_gts h1 h8⟩)
    refine (grid_ip s p h1 h8 hp _).mono ?_
    have hgl : (gps s).length = p := by rw [gps_len, hp]
    have hgtl : (gts s).length = p := by rw [gts_len, hp]
    have HQ := Lib.hid (show _ ∧ _ from ⟨(show (gts s).length = (gps s).length by rw [hgl, hgtl]), fun i (hi : i < (gps s).length) => (gts_some h1 h8 hi).1⟩)
    clear hp
    rintro e w2 ⟨v0, v1, rfl, o0, o1, hb2⟩
    obtain ⟨g0, q0, hv0, hg0⟩ := owns_some o0 hp1
    obtain ⟨g1, q1, hv1, hg1⟩ := owns_some o1 hp1
    rw [hv0] at o0 ⊢
    rw [hv1] at o1 ⊢
    clear hv0 hv1
    have hal : ∀ o, Below w2.heap.size w2 (w2.alloc o) := fun o => (Below.refl _ _).alloc (Nat.le_refl _) _
    have HD := Lib.hid (show DS w1 a0 len0 xs s p w2.heap.size w1.heap.size (.slice (some ⟨g0, 0, none⟩) p q0) (.slice (some ⟨g1, 0, none⟩) p q1) (w2.alloc (.cells #[.slice (some ⟨g0, 0, none⟩) p q0, .slice (some ⟨g1, 0, none⟩) p q1] 25)) from
      ⟨hb2.alloc hb2.size _, HX.out.below (hb2.trans ((hal _).mono hb2.size)), own_below o0 (hal _), own_below o1 (hal _), tabVar_new _ _ _⟩)
    clear o0 o1 hal hb2
    go_wp2_with fail
    have hxs : (w2.alloc (.cells #[.slice (some ⟨g0, 0, none⟩) p q0, .slice (some ⟨g1, 0, none⟩) p q1] 25)).heap.size = w2.heap.size + 1 := by simp
    rw [← hxs]
    clear hxs
    generalize w2.alloc (.cells #[.slice (some ⟨g0, 0, none⟩) p q0, .slice (some ⟨g1, 0, none⟩) p q1] 25) = x at *
    generalize w2.heap.size = c4 at *
    go_loopw [6, 7] (fun lv iv wr => ∃ (k : Nat) (ms : List Nat) (g cap : Nat), k ≤ 12 ∧ iv = .int .i64 k ∧ ms.length = k ∧ (∀ m ∈ ms, m < p) ∧ lv = .slice (some ⟨g, 0, none⟩) k cap ∧ wr.ownsRow x.heap.size 3 1 (.slice (some ⟨g, 0, none⟩) k cap) k (ints (nat2 ms)) ∧ Below x.heap.size x wr) (fun _ iv _ => 12 - (intOf iv).toNat)
    case atStart => exact ⟨0, [], x.heap.size, 0, by omega, rfl, rfl, (fun m hm => by cases hm), rfl, World.ownsRow_lit (base := x.heap.size) (e := 3) (size := 1) x #[] 0 (Nat.le_refl _) (by decide) rfl, (Below.refl _ _).alloc (Nat.le_refl _) _⟩
    case round =>
      obtain ⟨k, ms, g, cap, hk, rfl, hml, hmp, rfl, hown, hbel⟩ := hrel
      have HL := Lib.hid (show _ ∧ _ ∧ _ ∧ _ from ⟨hml, hmp, hown, hbel⟩)
      have HR := Lib.hid (HD.out.below hbel)
      clear hml hmp hown hbel
      by_cases hlt : (k : Int) < 12
      · go_wp2_with fail
        refine (at_any _ _ _ _ k _ HR.out.code hl (by omega)).mono ?_
        rintro e w3 ⟨u, rfl, hu, rfl⟩
        clear hu
        have hnz : ¬ (p : Int) = 0 := by omega
        obtain ⟨m, hm, hmp⟩ : ∃ m : Nat, (u : Int) % (p : Int) = (m : Int) ∧ m < p := ⟨u % p, by simp, Nat.mod_lt _ (by omega)⟩
        go_wp2_with (at_builtin; refine wpList_append_own _ rfl _ _ 23 rfl x.heap.size 3 i1 (.int .i64 0) 1 8 Try.underlying23 hii hy0 hy1 hy2 rfl (by decide) _ _ _ rfl (HL.out.2.2.1.alloc _) ⟨w3.heap.size, 0, none⟩ 1 1 [_] rfl rfl (cell_one_new _ _ _) ?c2 ?c3 ?c4 ?c5 ?_)
        case c2 => intro x hx; rw [List.mem_singleton] at hx; subst hx; rfl
        case c3 => unfold maxLen; omega
        case c4 => omega
        case c5 => have := HL.out.2.2.2.size; simp; omega
        intro v' w4 hown hgrow _
        obtain ⟨g3, cp3, rfl, hg3⟩ := owns_some hown (by omega)
        have HN := Lib.hid (show _ ∧ _ ∧ _ from ⟨hmp, hown, (show Below x.heap.size x w4 from (HL.out.2.2.2.alloc HL.out.2.2.2.size _).grown hgrow (by have := HL.out.2.2.2.size; simp; omega) (fun j hj => (HL.out.2.2.1.lt j hj).1))⟩)
        clear hown hgrow hmp
        go_wp2_with fail
        go_roundw
        case rel => exact ⟨k + 1, ms ++ [m], g3, cp3, by omega, by go_num, by rw [List.length_append, HL.out.1]; rfl, (fun m' hm' => by
          rcases List.mem_append.1 hm' with h | h
          · exact HL.out.2.1 m' h
          · rw [List.mem_singleton] at h; subst h; exact HN.out.1), rfl, by rw [nat2_snoc]; exact HN.out.2.1, HN.out.2.2⟩
        case measure => simp [intOf]; omega
      · obtain rfl : k = 12 := by omega
        have T := HT.out ms HL.out.2.1
        have hen : (nat2 ms).length = 12 := by rw [← HL.out.1]; simp [nat2]
        obtain ⟨la, lc, hle, hls⟩ := own_slat HL.out.2.2.1
        obtain ⟨rfl, rfl⟩ : la = some ⟨g, 0, none⟩ ∧ lc = cap := by cases hle; exact ⟨rfl, rfl⟩
        have HS := Lib.hid (show _ ∧ _ from ⟨T, hls⟩)
        clear T hls hle
        have d0 := HR.out.var.1
        have d1 := HR.out.var.2
        go_wp2_with fail
        clear d0 d1
        refine (encode_i _ _ (gps s) (lbs s) (nat2 ms) _ (tabIn_own HR.out.o0 HR.out.o1 (by omega) (by omega) HG.out.1) HG.out.2.2.1 _ 12 _ HS.out.2 (by omega) HS.out.1.enc).mono ?_
        rintro e w4 ⟨az, cz, rfl, oz, hb4⟩
        rw [HS.out.1.encEq] at oz
        have HR4 := Lib.hid (show _ ∧ _ ∧ _ ∧ _ from ⟨HR.out.below hb4, oz, HS.out.2.below hb4, own_slat oz⟩)
        clear oz hb4
        have d0 := HR4.out.1.var.1
        have d1 := HR4.out.1.var.2
        go_wp2_with fail
        clear d0 d1
        obtain ⟨_, _, he, hsz⟩ := HR4.out.2.2.2
        cases he
        have HZ := Lib.hid hsz
        clear hsz
        refine (decide_i _ _ (gps s) (lbs s) _ _ (tabIn_own HR4.out.1.o0 HR4.out.1.o1 (by omega) (by omega) HG.out.1) HG.out.2.2.1 _ 12 _ HZ.out (by omega) HS.out.1.dec).mono ?_
        rintro e w5 ⟨ad, cd, rfl, od, hb5⟩
        rw [HS.out.1.decEq] at od
        obtain ⟨_, _, he, hsd⟩ := own_slat od
        cases he
        have HR5 := Lib.hid (show _ ∧ _ ∧ _ ∧ _ from ⟨HR4.out.1.below hb5, own_below HR4.out.2.1 hb5, HR4.out.2.2.1.below hb5, hsd⟩)
        clear od hb5 hsd HR4
        go_wp2_with fail
        refine (intsEq_any _ _ _ _ 12 (nat2 ms) _ (by omega) HR5.out.2.2.2 HR5.out.2.2.1).mono ?_
        rintro e w6 ⟨n6, rfl, rfl⟩
        have d0 := HR5.out.1.var.1
        have d1 := HR5.out.1.var.2
        go_wp2_with fail
        clear d0 d1
        refine (turn_i _ _ _ _ p (gps s) (gts s) (lbs s) (0, 1065353216) _ hp1 hp64 HR5.out.1.drewN.o0 HR5.out.1.drewN.o1 HG.out.1 HG.out.2.1 HQ.out.1 HQ.out.2 HG.out.2.2.1 HG.out.2.2.2).mono ?_
        rintro e w7 ⟨t0, k0, t1, k1, rfl, p0, p1, hb7⟩
        have hal : ∀ o, Below w7.heap.size w7 (w7.alloc o) := fun o => (Below.refl _ _).alloc (Nat.le_refl _) _
        have hb8 : Below (w5.drewN n6).heap.size (w5.drewN n6) (w7.alloc (.cells #[.slice t0 p k0, .slice t1 p k1] 25)) := hb7.trans ((hal _).mono hb7.size)
        have HR8 := Lib.hid (show _ ∧ _ from ⟨HR5.out.1.drewN.below hb8, HR5.out.2.2.1.drewN.below hb8⟩)
        have HZ8 : SlAt (w7.alloc (.cells #[.slice t0 p k0, .slice t1 p k1] 25)) az 12 ((pk (gps s) ms).map cx) := by
          obtain ⟨_, _, he, h⟩ := own_slat HR5.out.2.1
          cases he
          exact h.drewN.below hb8
        have HU := Lib.hid (show _ ∧ _ ∧ _ ∧ _ from ⟨HZ8, own_below p0 (hal (.cells #[.slice t0 p k0, .slice t1 p k1] 25)), own_below p1 (hal (.cells #[.slice t0 p k0, .slice t1 p k1] 25)), tabVar_new w7 (.slice t0 p k0) (.slice t1 p k1)⟩)
        clear p0 p1 hb7 hb8 hal HZ8 HR5 HZ
        go_wp2_with fail
        have hxs : (w7.alloc (.cells #[.slice t0 p k0, .slice t1 p k1] 25)).heap.size = w7.heap.size + 1 := by simp
        rw [← hxs]
        clear hxs
        generalize w7.alloc (.cells #[.slice t0 p k0, .slice t1 p k1] 25) = y at *
        generalize w7.heap.size = c12 at *
        go_loopw [14, 92] (fun lv iv wr => ∃ (k g cap : Nat), k ≤ 12 ∧ iv = .int .i64 k ∧ lv = .slice (some ⟨g, 0, none⟩) k cap ∧ wr.ownsRow y.heap.size 33 1 (.slice (some ⟨g, 0, none⟩) k cap) k ((pk (gts s) (ms.take k)).map cx) ∧ Below y.heap.size y wr) (fun _ iv _ => 12 - (intOf iv).toNat)
        case atStart => exact ⟨0, y.heap.size, 0, by omega, rfl, rfl, World.ownsRow_lit (base := y.heap.size) (e := 33) (size := 1) y #[] 0 (Nat.le_refl _) (by decide) rfl, (Below.refl _ _).alloc (Nat.le_refl _) _⟩
        case round =>
          obtain ⟨k, g, cap, hk, rfl, rfl, hown, hbel⟩ := hrel
          have HY := Lib.hid (show _ ∧ _ from ⟨hown, hbel⟩)
          clear hown hbel
          by_cases hlt : (k : Int) < 12
          · have hk' : k < ms.length := by rw [HL.out.1]; omega
            rcases (HU.out.1.below HY.out.2).2 with h | ⟨gz, oz, rfl, hh⟩
            · omega
            · have hcx : wr.cell? ⟨gz, oz + k, none⟩ = some (cx ((gps s).getD ms[k] (0, 0))) := by
                rw [hh k (by simpa [pk_len] using hk'), pk_at _ hk']
              clear hh
              have hnew := pk_snoc (gts s) hk'
              have hmu := HS.out.1.mul k hk'
              generalize (gps s).getD ms[k] (0, 0) = rp at *
              generalize (gts s).getD ms[k] (0, 0) = rt at *
              have HN := Lib.hid (show _ ∧ _ from ⟨hnew, hmu⟩)
              clear hnew hmu
              go_wp2_with fail
              refine (multiply_i _ (0, 1065353216) _ _ HN.out.2).mono ?_
              rintro e w8 ⟨rfl, n8, rfl⟩
              go_wp2_with (at_builtin; refine wpList_append_own _ rfl _ _ 22 rfl y.heap.size 33 i0 (.complex .f32 0 0) 1 8 Try.underlying22 hic hz0 hz1 hz2 rfl (by decide) _ _ _ rfl ((own_below HY.out.1 (below_drewN' (Below.refl _ _))).alloc _) ⟨wr.heap.size, 0, none⟩ 1 1 [_] rfl rfl (cell_one_new _ _ _) ?c2 ?c3 ?c4 ?c5 ?_)
              case c2 => intro x hx; rw [List.mem_singleton] at hx; subst hx; rfl
              case c3 => unfold maxLen; omega
              case c4 => omega
              case c5 => have := HY.out.2.size; simp; omega
              intro v' w9 hown hgrow _
              obtain ⟨g3, cp3, rfl, hg3⟩ := owns_some hown (by omega)
              have HN3 := Lib.hid (show _ ∧ _ from ⟨hown, (show Below y.heap.size y w9 from ((below_drewN' HY.out.2).alloc HY.out.2.size _).grown hgrow (by have := HY.out.2.size; simp; omega) (fun j hj => (HY.out.1.lt j hj).1))⟩)
              clear hown hgrow
              go_wp2_with fail
              go_roundw
              case rel => exact ⟨k + 1, g3, cp3, by omega, by go_num, rfl, by rw [HN.out.1]; exact HN3.out.1, HN3.out.2⟩
              case measure => simp [intOf]; omega
          · obtain rfl : k = 12 := by omega
            have htk : ms.take 12 = ms := List.take_of_length_le (by rw [HL.out.1]; omega)
            have hst := HY.out.1
            rw [htk] at hst
            have HW := Lib.hid (show _ ∧ _ ∧ _ ∧ _ ∧ _ ∧ _ ∧ _ from ⟨HR8.out.1.below HY.out.2, HR8.out.2.below HY.out.2, own_below HU.out.2.1 HY.out.2, own_below HU.out.2.2.1 HY.out.2, HU.out.2.2.2.below HY.out.2, hst, htk⟩)
            clear hst htk HY HU HR8
            have d0 := HW.out.2.2.2.2.1.1
            have d1 := HW.out.2.2.2.2.1.2
            go_wp2_with fail
            clear d0 d1
            refine (decide_i _ _ (gts s) (lbs s) _ _ (tabIn_own HW.out.2.2.1 HW.out.2.2.2.1 (by omega) (by omega) HG.out.2.1) HG.out.2.2.2 _ 12 _ (slat_own HW.out.2.2.2.2.2.1) (by omega) HS.out.1.dec2).mono ?_
            rintro e w8 ⟨aa, ca, rfl, oa, hb8⟩
            rw [HS.out.1.dec2Eq] at oa
            obtain ⟨_, _, he, hsa⟩ := own_slat oa
            cases he
            have HV := Lib.hid (show _ ∧ _ ∧ _ ∧ _ from ⟨HW.out.1.below hb8, HW.out.2.1.below hb8, own_below HW.out.2.2.2.2.2.1 hb8, hsa⟩)
            clear oa hb8 hsa HW
            have d0 := HV.out.1.var.1
            have d1 := HV.out.1.var.2
            go_wp2_with fail
            clear d0 d1
            refine (decide_i _ _ (gps s) (lbs s) _ _ (tabIn_own HV.out.1.o0 HV.out.1.o1 (by omega) (by omega) HG.out.1) HG.out.2.2.1 _ 12 _ (slat_own HV.out.2.2.1) (by omega) HS.out.1.dec3).mono ?_
            rintro e w9 ⟨ab, cb, rfl, ob, hb9⟩
            obtain ⟨gb, cpb, hob, _⟩ := owns_some ob (by omega)
            obtain ⟨rfl, rfl⟩ : ab = some ⟨gb, 0, none⟩ ∧ cb = cpb := by cases hob; exact ⟨rfl, rfl⟩
            clear hob
            have HF := Lib.hid (show _ ∧ _ ∧ _ ∧ _ ∧ _ from ⟨HV.out.1.below hb9, HV.out.2.1.below hb9, own_below HV.out.2.2.1 hb9, HV.out.2.2.2.below hb9, ob⟩)
            clear hb9 ob HV
            go_wp2_with fail
            go_loopw [21] (fun iv wr => ∃ (k q : Nat), k ≤ 12 ∧ iv = .int .i64 k ∧ wr = w9.drewN q) (fun iv _ => 12 - (intOf iv).toNat)
            case atStart => exact ⟨0, 0, by omega, rfl, rfl⟩
            case round =>
              obtain ⟨k, q, hk, rfl, rfl⟩ := hrel
              by_cases hlt : (k : Int) < 12
              · have hk' : k < ms.length := by rw [HL.out.1]; omega
                obtain ⟨j, hj, hjo, hce⟩ := HS.out.1.dec3Eq k hk'
                have c1 : w9.cell? ⟨gb, k, none⟩ = some (.int .i64 (j : Int)) := by
                  have := holds_of_owns HF.out.2.2.2.2 k (by
                    have := (List.getElem?_eq_some_iff.1 hjo).1
                    simpa [ints] using this)
                  rw [Nat.zero_add] at this
                  rw [this]
                  unfold ints
                  rw [List.getElem?_map, hjo]; rfl
                have c2 : w9.cell? ⟨g0, j, none⟩ = some (cx (gps s)[j]) := by
                  have := holds_of_owns HF.out.1.o0 j (by simpa using hj)
                  rw [Nat.zero_add] at this
                  rw [this, List.getElem?_map, List.getElem?_eq_getElem hj]; rfl
                have c3 : w9.cell? ⟨g, k, none⟩ = some (cx ((gts s).getD ms[k] (0, 0))) := by
                  have := holds_of_owns HF.out.2.2.1 k (by simpa [pk_len] using hk')
                  rw [Nat.zero_add] at this
                  rw [this, pk_at _ hk']
                have c4' := HF.out.1.var.1
                have hjp : (j : Int) < (p : Int) := by omega
                have hj0 : ¬ (j : Int) < 0 := by omega
                generalize (gps s)[j] = rp at *
                generalize (gts s).getD ms[k] (0, 0) = rt at *
                have HCE := Lib.hid (show _ ∧ _ from ⟨hce, hjo⟩)
                clear hce hjo
                have hcq : ∀ w, Calls Try.prog 28 #[cx rp, cx rt] w fun e w' => e = .returned (.bool true) ∧ w' = w := fun w => by
                  have := equal_any rp rt w
                  rwa [HCE.out.1] at this
                go_wp2_with fail
                go_quiet (fail)
                go_wp2_with fail
                go_region_with ((go_at_call 28; refine (hcq _).mono ?_; rintro e w' ⟨rfl, rfl⟩))
                all_goals
                  go_wp2_with fail
                  go_roundw
                  case rel => exact ⟨k + 1, _, by omega, by go_num, rfl⟩
                  case measure => simp [intOf]; omega
              · obtain rfl : k = 12 := by omega
                go_wp2_with fail
                refine (intsEq_any _ _ _ _ 12 (nat2 ms) _ (by omega) HF.out.2.2.2.1.drewN HF.out.2.1.drewN).mono ?_
                rintro e w10 ⟨n10, rfl, rfl⟩
                go_wp2_with fail
                go_ret
                exact ⟨rfl, below_drewN' HF.out.1.bel⟩
  · have hg : (1048576 : Int) < (len0 : Int) := by omega
    go_enter Try.func5, Try.ntmps5
    go_wp2_with fail
    go_ret
    exact ⟨rfl, Below.refl _ _⟩
end Go.Proofs.Ytolflcjaglgphaa
