/-
  The walk of FnMerged: it returns true of every draw.
-/
import Derived.Test.YtolflcjaglgphaaMkTab
import Derived.Test.YtolflcjaglgphaaMergeQ
import Derived.Test.YtolflcjaglgphaaFresh
namespace Go.Proofs.Ytolflcjaglgphaa
open Go.RowKit
/-- A variable that holds a table of the call's own. -/
structure VT (c B : Nat) (v0 v1 : Value) (cur : Tab) (y : World) : Prop where
  var : TabVar y c v0 v1
  tab : TabO B y v0 v1 cur.1 cur.2
theorem VT.keep {c B : Nat} {v0 v1 : Value} {cur : Tab} {y y' : World} (h : VT c B v0 v1 cur y) (hb : Below y.heap.size y y') : VT c B v0 v1 cur y' := ⟨h.var.below hb, h.tab.below hb⟩
theorem VT.new {B : Nat} {v0 v1 : Value} {cur : Tab} {w : World} (h : TabO B w v0 v1 cur.1 cur.2) : VT w.heap.size B v0 v1 cur (w.alloc (.cells #[v0, v1] 25)) := ⟨tabVar_new _ _ _, h.below (bel_one _ _)⟩
theorem findOk_yes {T : Tab} {z : Nat × Nat} (h1 : isTab T.1 T.2.length = true) (h2 : 0 ≤ idxI T.1 z) : findOk T.1 T.2 z = true := by unfold findOk; rw [h1, decide_eq_true h2]; rfl
theorem cell_pt {w : World} {B n cap : Nat} {c : Option Addr} {qs : List (Nat × Nat)} {k : Nat} (h : w.ownsRow B 33 1 (.slice c n cap) n (qs.map cx)) (hk : k < qs.length) : ∃ g off, c = some ⟨g, off, none⟩ ∧ w.cell? ⟨g, off + k, none⟩ = some (.complex .f32 qs[k].1 qs[k].2) := by
  have hl : qs.length = n := by simpa using h.1
  rcases (slat_own' h).2 with h0 | ⟨g, off, rfl, hh⟩
  · omega
  · exact ⟨g, off, rfl, by rw [hh.at (by simpa using hk), List.getElem_map]; rfl⟩
theorem cell_lb {w : World} {B n cap : Nat} {c : Option Addr} {ms : List Int} {k : Nat} (h : w.ownsRow B 3 1 (.slice c n cap) n (ints ms)) (hk : k < ms.length) : ∃ g off, c = some ⟨g, off, none⟩ ∧ w.cell? ⟨g, off + k, none⟩ = some (.int .i64 ms[k]) := by
  have hl : ms.length = n := by simpa [ints] using h.1
  rcases (slat_own' h).2 with h0 | ⟨g, off, rfl, hh⟩
  · omega
  · exact ⟨g, off, rfl, by rw [hh.at (by simpa [ints] using hk)]; simp [ints]⟩
/-- The three tables in their variables. -/
structure T3 (w : World) (c3 c4 c5 B3 B4 B5 : Nat) (u0 u1 v0 v1 t0 t1 : Value) (A Bt T : Tab) (y : World) : Prop where
  bel : Below w.heap.size w y
  a : VT c3 B3 u0 u1 A y
  b : VT c4 B4 v0 v1 Bt y
  t : VT c5 B5 t0 t1 T y
theorem T3.keep {w y y' : World} {c3 c4 c5 B3 B4 B5 : Nat} {u0 u1 v0 v1 t0 t1 : Value} {A Bt T : Tab} (h : T3 w c3 c4 c5 B3 B4 B5 u0 u1 v0 v1 t0 t1 A Bt T y) (hb : Below y.heap.size y y') : T3 w c3 c4 c5 B3 B4 B5 u0 u1 v0 v1 t0 t1 A Bt T y' :=
  ⟨bel_go h.bel hb, h.a.keep hb, h.b.keep hb, h.t.keep hb⟩
set_option maxHeartbeats 4000000 in
set_option maxRecDepth 100000 in
theorem fnMerged_walk {w : World} (a0 : Option Addr) (len0 cap0 : Nat) (z0 : List Int) (w0 : IsRow w a0 len0 cap0 z0) :
    Calls Try.prog 6 #[.slice a0 len0 cap0] w fun e w' => e = .returned (.bool true) ∧ Below w.heap.size w w' := by
  by_cases hl : len0 ≤ 1048576
  · obtain ⟨xs, hx⟩ := code_of_row w0 hl
    have HX := Lib.hid hx
    clear w0 hx
    go_enter Try.func6, Try.ntmps6
    go_wp2_with fail
    refine (makeTable_any _ _ _ _ _ HX.out).mono ?_
    rintro e w1 ⟨A, a1, p1, b1, q1, rfl, htab, hokA, hb1⟩
    have H1 := Lib.hid (show _ ∧ _ ∧ _ ∧ _ from ⟨hb1.alloc hb1.size (.cells #[.slice a1 A.1.length p1, .slice b1 A.1.length q1] 25), HX.out.below (hb1.alloc hb1.size (.cells #[.slice a1 A.1.length p1, .slice b1 A.1.length q1] 25)), VT.new htab, hokA⟩)
    clear htab hokA hb1
    go_wp2_with fail
    generalize w1.alloc (.cells #[.slice a1 A.1.length p1, .slice b1 A.1.length q1] 25) = x1 at *
    generalize w1.heap.size = c3 at *
    refine (fresh_any _ _ _ _ 3 _ H1.out.2.1 hl (by decide)).mono ?_
    rintro e w2 ⟨g2, n2, cap2, xs2, rfl, hg2, hcode2, hn2, hb2⟩
    have H2 := Lib.hid (show _ ∧ _ ∧ _ ∧ _ from ⟨bel_go H1.out.1 hb2, hcode2, H1.out.2.2.1.keep hb2, H1.out.2.2.2⟩)
    clear hcode2 hb2 hg2 hn2 H1
    go_wp2_with fail
    refine (makeTable_any _ _ _ _ _ H2.out.2.1).mono ?_
    rintro e w3 ⟨Bt, a2, p2, b2, q2, rfl, htab, hokB, hb3⟩
    have hb3' := hb3.alloc hb3.size (.cells #[.slice a2 Bt.1.length p2, .slice b2 Bt.1.length q2] 25)
    have H3 := Lib.hid (show _ ∧ _ ∧ _ ∧ _ ∧ _ from ⟨bel_go H2.out.1 hb3', H2.out.2.2.1.keep hb3', VT.new htab, H2.out.2.2.2, hokB⟩)
    clear htab hokB hb3 hb3' H2
    obtain ⟨d0, d1⟩ := H3.out.2.1.var
    obtain ⟨d2, d3⟩ := H3.out.2.2.1.var
    go_wp2_with fail
    generalize w3.alloc (.cells #[.slice a2 Bt.1.length p2, .slice b2 Bt.1.length q2] 25) = x3 at *
    generalize w3.heap.size = c4 at *
    refine (merge_i _ _ _ _ _ _ A.1 Bt.1 A.2 Bt.2 _ H3.out.2.1.tab H3.out.2.2.1.tab).mono ?_
    have HMO := Lib.hid (fun T (h : mergeP (A.1, A.2) (Bt.1, Bt.2) = some T) => mergeOk (A := A) (B := Bt) H3.out.2.2.2.1 H3.out.2.2.2.2 h)
    have hMS := fun W (hb : Below x3.heap.size x3 W) => merge_s _ _ _ _ _ _ A.1 Bt.1 A.2 Bt.2 W (H3.out.2.1.keep hb).tab (H3.out.2.2.1.keep hb).tab
    have HMS := Lib.hid hMS
    clear hMS
    generalize mergeP (A.1, A.2) (Bt.1, Bt.2) = r at *
    rintro e w4 ⟨a5, p5, b5, q5, rfl, htab, hb4⟩
    have hb4' := hb4.alloc hb4.size (.cells #[.slice a5 (r.getD ([], [])).1.length p5, .slice b5 (r.getD ([], [])).1.length q5] 25)
    have H4 := Lib.hid (show _ ∧ _ ∧ _ ∧ _ from ⟨hb4', H3.out.2.1.keep hb4', H3.out.2.2.1.keep hb4', VT.new htab⟩)
    clear htab hb4 hb4' d0 d1 d2 d3
    obtain ⟨d0, d1⟩ := H4.out.2.1.var
    obtain ⟨d2, d3⟩ := H4.out.2.2.1.var
    go_wp2_with fail
    refine (HMS.out _ H4.out.1).mono ?_
    rintro e w5 ⟨a6, p6, b6, q6, rfl, htab, hb5⟩
    have hb5' := hb5.alloc hb5.size (.cells #[.slice a6 (r.getD ([], [])).1.length p6, .slice b6 (r.getD ([], [])).1.length q6] 25)
    have H5 := Lib.hid (show _ ∧ _ ∧ _ ∧ _ from ⟨bel_go H3.out.1 (bel_go H4.out.1 hb5'), H4.out.2.1.keep hb5', H4.out.2.2.1.keep hb5', H4.out.2.2.2.keep hb5'⟩)
    clear htab hb5 hb5' d0 d1 d2 d3 HMS
    cases r with
    | none =>
      go_wp2_with fail
      go_ret
      exact ⟨rfl, H5.out.1⟩
    | some T =>
      have HM := Lib.hid (HMO.out T rfl)
      clear HMO
      have H6 := Lib.hid (show Below w.heap.size w (w5.alloc (.cells #[.slice a6 T.1.length p6, .slice b6 T.1.length q6] 25)) ∧ VT c3 _ (.slice a1 A.1.length p1) (.slice b1 A.1.length q1) A (w5.alloc (.cells #[.slice a6 T.1.length p6, .slice b6 T.1.length q6] 25)) ∧ VT c4 _ (.slice a2 Bt.1.length p2) (.slice b2 Bt.1.length q2) Bt (w5.alloc (.cells #[.slice a6 T.1.length p6, .slice b6 T.1.length q6] 25)) ∧ VT w4.heap.size _ (.slice a5 T.1.length p5) (.slice b5 T.1.length q5) T (w5.alloc (.cells #[.slice a6 T.1.length p6, .slice b6 T.1.length q6] 25)) from H5.out)
      clear H5 H4
      obtain ⟨d0, d1⟩ := H6.out.2.1.var
      obtain ⟨d2, d3⟩ := H6.out.2.2.1.var
      go_wp2_with fail
      have HT := Lib.hid (show T3 w c3 c4 w4.heap.size _ _ _ (.slice a1 A.1.length p1) (.slice b1 A.1.length q1) (.slice a2 Bt.1.length p2) (.slice b2 Bt.1.length q2) (.slice a5 T.1.length p5) (.slice b5 T.1.length q5) A Bt T (w5.alloc (.cells #[.slice a6 T.1.length p6, .slice b6 T.1.length q6] 25)) from ⟨H6.out.1, H6.out.2.1, H6.out.2.2.1, H6.out.2.2.2⟩)
      have HOK := Lib.hid (show _ ∧ _ from ⟨H3.out.2.2.2.1, H3.out.2.2.2.2⟩)
      clear H6 d0 d1 d2 d3
      generalize w5.alloc (.cells #[.slice a6 T.1.length p6, .slice b6 T.1.length q6] 25) = y at *
      generalize w4.heap.size = c5 at *
      generalize x3.heap.size = B5 at *
      generalize w2.heap.size = B4 at *
      clear H3
      have hlA : A.2.length = A.1.length := HT.out.a.tab.len
      have hlB : Bt.2.length = Bt.1.length := HT.out.b.tab.len
      have hleA := HT.out.a.tab.le
      have hleB := HT.out.b.tab.le
      have hLEN := Lib.hid (show _ ∧ _ from ⟨hlA, hlB⟩)
      clear hlA hlB
      go_loopw [52] (fun kv wr => ∃ k : Nat, k ≤ Bt.1.length ∧ kv = .int .i64 k ∧ T3 w c3 c4 c5 w.heap.size B4 B5 (.slice a1 A.1.length p1) (.slice b1 A.1.length q1) (.slice a2 Bt.1.length p2) (.slice b2 Bt.1.length q2) (.slice a5 T.1.length p5) (.slice b5 T.1.length q5) A Bt T wr) (fun kv _ => Bt.1.length - (intOf kv).toNat)
      case atStart => exact ⟨0, by omega, rfl, HT.out⟩
      case round =>
        obtain ⟨k, hk, rfl, ht3⟩ := hrel
        have HR := Lib.hid ht3
        clear ht3 HT
        obtain ⟨d2, d3⟩ := HR.out.b.var
        obtain ⟨d4, d5⟩ := HR.out.t.var
        by_cases hlt : (k : Int) < (Bt.1.length : Int)
        · have hk' : k < Bt.1.length := by omega
          have hk2 : k < Bt.2.length := by have := hLEN.out.2; omega
          obtain ⟨g, off, rfl, hcx⟩ := cell_pt HR.out.b.tab.o0 hk'
          have hs := HM.out.second k hk' hk2
          have hfo := findOk_yes HM.out.tab hs.1
          have HS := Lib.hid (show _ ∧ _ from ⟨hfo, hs.2⟩)
          clear hs hfo
          have HLB := Lib.hid (fun (W : World) (h : Below wr.heap.size wr W) => cell_lb (HR.out.b.keep h).tab.o1 hk2)
          generalize Bt.1[k] = zq at *
          generalize Bt.2[k] = lq at *
          go_wp2_with fail
          refine (find_i _ _ T.1 T.2 zq _ HR.out.t.tab.tabIn).mono ?_
          rintro e wr2 ⟨he, hbf⟩
          rw [HS.out.1, if_pos rfl, HS.out.2] at he
          subst he
          have HR2 := Lib.hid (HR.out.keep hbf)
          obtain ⟨g2', off2, hq, hcl⟩ := HLB.out _ hbf
          subst hq
          clear hbf HR d2 d3 d4 d5 hcx
          obtain ⟨d2, d3⟩ := HR2.out.b.var
          obtain ⟨d4, d5⟩ := HR2.out.t.var
          go_wp2_with fail
          go_roundw
          case rel => exact ⟨k + 1, by omega, by go_num, HR2.out⟩
          case measure => simp [intOf]; omega
        · obtain ⟨d0, d1⟩ := HR.out.a.var
          go_wp2_with fail
          clear d0 d1 d2 d3 d4 d5 hlt
          go_loopw [78] (fun kv wx => ∃ k : Nat, k ≤ A.1.length ∧ kv = .int .i64 k ∧ T3 w c3 c4 c5 w.heap.size B4 B5 (.slice a1 A.1.length p1) (.slice b1 A.1.length q1) (.slice a2 Bt.1.length p2) (.slice b2 Bt.1.length q2) (.slice a5 T.1.length p5) (.slice b5 T.1.length q5) A Bt T wx) (fun kv _ => A.1.length - (intOf kv).toNat)
          case atStart => exact ⟨0, by omega, rfl, HR.out⟩
          case round =>
            clear HR hk
            obtain ⟨k, hk, rfl, ht3⟩ := hrel
            have HR := Lib.hid ht3
            clear ht3
            obtain ⟨d0, d1⟩ := HR.out.a.var
            obtain ⟨d2, d3⟩ := HR.out.b.var
            obtain ⟨d4, d5⟩ := HR.out.t.var
            by_cases hlt : (k : Int) < (A.1.length : Int)
            · have hk' : k < A.1.length := by omega
              have hk2 : k < A.2.length := by have := hLEN.out.1; omega
              obtain ⟨g, off, rfl, hcx⟩ := cell_pt HR.out.a.tab.o0 hk'
              have hs := HM.out.first k hk' hk2
              have hfo := findOk_yes HM.out.tab hs.1
              have HS := Lib.hid (show _ ∧ _ from ⟨hfo, hs.2⟩)
              clear hs hfo
              have HLA := Lib.hid (fun (W : World) (h : Below wr.heap.size wr W) => cell_lb (HR.out.a.keep h).tab.o1 hk2)
              generalize A.1[k] = zq at *
              generalize A.2[k] = lq at *
              go_wp2_with fail
              refine (find_i _ _ T.1 T.2 zq _ HR.out.t.tab.tabIn).mono ?_
              rintro e wr2 ⟨he, hbf⟩
              rw [HS.out.1, if_pos rfl] at he
              obtain ⟨tv, htv⟩ : ∃ tv, T.2.getD (idxI T.1 zq).toNat 0 = tv := ⟨_, rfl⟩
              rw [htv] at he
              have HTV := Lib.hid htv
              clear htv
              subst he
              have HR2 := Lib.hid (show _ ∧ _ from ⟨HR.out.keep hbf, hbf⟩)
              clear hbf d0 d1 d2 d3 d4 d5 hcx
              obtain ⟨d2, d3⟩ := HR2.out.1.b.var
              go_wp2_with fail
              refine (find_s _ _ Bt.1 Bt.2 zq _ HR2.out.1.b.tab.tabIn).mono ?_
              rintro e wr3 ⟨he, hbf⟩
              have HR3 := Lib.hid (HR2.out.1.keep hbf)
              obtain ⟨g2', off2, hq, hcl⟩ := HLA.out _ (bel_go HR2.out.2 hbf)
              subst hq
              clear hbf HR HR2 d2 d3 HLA
              obtain ⟨d0, d1⟩ := HR3.out.a.var
              cases hfb : findOk Bt.1 Bt.2 zq with
              | true =>
                rw [hfb, if_pos rfl] at he
                subst he
                go_wp2_with fail
                go_roundw
                case rel => exact ⟨k + 1, by omega, by go_num, HR3.out⟩
                case measure => simp [intOf]; omega
              | false =>
                rw [hfb] at he
                subst he
                have hno : ¬ 0 ≤ idxI Bt.1 zq := fun h => by rw [findOk_yes HOK.out.2 h] at hfb; cases hfb
                obtain rfl : tv = lq := by
                  rcases HS.out.2 with h | h
                  · exact absurd h hno
                  · exact HTV.out.symm.trans h.2
                clear hno
                go_wp2_with fail
                go_roundw
                case rel => exact ⟨k + 1, by omega, by go_num, HR3.out⟩
                case measure => simp [intOf]; omega
            · clear d0 d1 d2 d3
              go_wp2_with fail
              refine (isTable_s _ _ T.1 T.2 _ HR.out.t.tab.tabIn).mono ?_
              rintro e wr2 ⟨rfl, hbf⟩
              rw [HM.out.tab]
              have HR2 := Lib.hid (HR.out.keep hbf)
              clear hbf HR d4 d5
              obtain ⟨d0, d1⟩ := HR2.out.a.var
              obtain ⟨d2, d3⟩ := HR2.out.b.var
              obtain ⟨d4, d5⟩ := HR2.out.t.var
              have hsum : (T.1.length : Int) ≤ (A.1.length : Int) + (Bt.1.length : Int) := by have := HM.out.len; omega
              go_wp2_with fail
              go_ret
              exact ⟨rfl, HR2.out.bel⟩
  · have hg : (1048576 : Int) < (len0 : Int) := by omega
    go_enter Try.func6, Try.ntmps6
    go_wp2_with fail
    go_ret
    exact ⟨rfl, Below.refl _ _⟩
end Go.Proofs.Ytolflcjaglgphaa
