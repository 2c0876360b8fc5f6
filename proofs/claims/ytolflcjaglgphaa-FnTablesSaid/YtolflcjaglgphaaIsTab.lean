/-
  IsTable of the program and of the reference.
-/
import Derived.Test.YtolflcjaglgphaaPlace
namespace Go.Proofs.Ytolflcjaglgphaa
open Go.RowKit

/-- Two slices that hold a table's points and labels. -/
def TabIn (w : World) (v0 v1 : Value) (ps : List (Nat × Nat)) (ls : List Int) : Prop :=
  ∃ a n ca b m cb, v0 = .slice a n ca ∧ v1 = .slice b m cb ∧ SlAt w a n (ps.map cx) ∧ SlAt w b m (ls.map (Value.int .i64)) ∧ n ≤ ca ∧ ca ≤ 9223372036854775807 ∧ m ≤ cb ∧ cb ≤ 9223372036854775807 ∧ n ≤ 1048576 ∧ m ≤ 1048576 ∧
    ∀ p ∈ ps, p.1 < 4294967296 ∧ p.2 < 4294967296
theorem TabIn.below {w w' : World} {v0 v1 : Value} {ps : List (Nat × Nat)} {ls : List Int} (h : TabIn w v0 v1 ps ls) (hb : Below w.heap.size w w') : TabIn w' v0 v1 ps ls := by
  obtain ⟨a, n, ca, b, m, cb, h1, h2, h3, h4, rest⟩ := h
  exact ⟨a, n, ca, b, m, cb, h1, h2, h3.below hb, h4.below hb, rest⟩
theorem isTab_not {ps : List (Nat × Nat)} {m i : Nat} (hi : i < ps.length) (h : cfin ps[i] = false ∨ ∃ k, ∃ hk : k < i, ceq (ps[k]'(by omega)) ps[i] = true) : isTab ps m = false := by
  refine decide_eq_false fun hg => ?_
  obtain ⟨h1, h2⟩ := hg.2.2 i hi
  rcases h with h | ⟨k, hk, h⟩
  · rw [h] at h1; cases h1
  · rw [h2 k hk] at h; cases h
theorem ret_bool {a b : Bool} (h : a = b) : Ending.returned (.bool a) = .returned (.bool b) := by rw [h]
/-- The points below i are good. -/
def goodTo (ps : List (Nat × Nat)) (i : Nat) : Prop := ∀ j (hj : j < ps.length), j < i → cfin ps[j] = true ∧ ∀ k (hk : k < j), ceq (ps[k]'(by omega)) ps[j] = false
theorem isTab_yes {ps : List (Nat × Nat)} {m : Nat} (h1 : ps.length = m) (h2 : ps.length ≤ 64) (h : goodTo ps ps.length) : isTab ps m = true :=
  decide_eq_true ⟨h1, h2, fun i hi => h i hi hi⟩
set_option maxHeartbeats 2000000 in
theorem isTable_s (v0 v1 : Value) (ps : List (Nat × Nat)) (ls : List Int) (w : World) (ht : TabIn w v0 v1 ps ls) :
    Calls Try.prog 32 #[.agg #[v0, v1]] w fun e w' => e = .returned (.bool (isTab ps ls.length)) ∧ Below w.heap.size w w' := by
  obtain ⟨a, n, ca, b, m, cb, rfl, rfl, hp, hq, -, -, -, -, hn, hm, -⟩ := ht
  have hl : ps.length = n := by simpa using hp.1
  have hl2 : ls.length = m := by simpa using hq.1
  have hb : Below w.heap.size w (w.alloc (Obj.cells #[Value.slice a n ca, Value.slice b m cb] 25)) := (Below.refl _ _).alloc (Nat.le_refl _) _
  have HP := Lib.hid (show _ ∧ _ from ⟨hp.below hb, hb⟩)
  clear hp hq hb
  by_cases hnm : (n : Int) = (m : Int)
  · by_cases h64 : (64 : Int) < (n : Int)
    · have hf : isTab ps ls.length = false := decide_eq_false fun h => by omega
      rw [hf]
      go_enter Try.func32, Try.ntmps32
      go_wp2_with fail
      go_ret
      exact ⟨rfl, HP.out.2⟩
    · go_enter Try.func32, Try.ntmps32
      go_wp2_with fail
      have hc0 : (w.alloc (Obj.cells #[Value.slice a n ca, Value.slice b m cb] 25)).cell? ⟨w.heap.size, 0, none⟩ = some (.slice a n ca) := by rw [World.cell?_alloc_new]; rfl
      generalize w.alloc (Obj.cells #[Value.slice a n ca, Value.slice b m cb] 25) = x at *
      go_loopw [22] (fun i wr => ∃ k q : Nat, k ≤ n ∧ i = .int .i64 k ∧ goodTo ps k ∧ wr = x.drewN q) (fun i _ => n - (intOf i).toNat)
      case atStart => exact ⟨0, 0, by omega, rfl, fun j hj h => by omega, rfl⟩
      case round =>
        obtain ⟨i, q, hi, rfl, hgood, rfl⟩ := hrel
        have HG := Lib.hid hgood
        clear hgood
        by_cases hlt : (i : Int) < (n : Int)
        · have hi' : i < ps.length := by omega
          rcases HP.out.1.2 with h | ⟨g, off, rfl, hh⟩
          · omega
          · have HH := Lib.hid hh
            have hcx : x.cell? ⟨g, off + i, none⟩ = some (.complex .f32 ps[i].1 ps[i].2) := by
              rw [hh.at (by simpa using hi'), List.getElem_map]; rfl
            clear hh
            go_wp2_with fail
            refine (l2Finite_any ps[i] _).mono ?_
            rintro e w1 ⟨rfl, q1, rfl⟩
            cases hf : cfin ps[i] with
            | false =>
              have ht : isTab ps ls.length = false := isTab_not hi' (.inl hf)
              go_wp2_with fail
              go_ret
              exact ⟨by first | rfl | exact ret_bool ht.symm | (subst hl2; exact ret_bool ht.symm), below_drewN' HP.out.2⟩
            | true =>
              go_wp2_with fail
              go_loop [5] (fun kv => ∃ k : Nat, k ≤ i ∧ kv = .int .i64 k ∧ ∀ j (hj : j < i), j < k → ceq (ps[j]'(by omega)) ps[i] = false) (fun kv => i - (intOf kv).toNat)
              case atStart => exact ⟨0, by omega, rfl, fun j hj h => by omega⟩
              case round =>
                obtain ⟨k, hk, rfl, hall⟩ := hrel
                have HA := Lib.hid hall
                clear hall
                by_cases hlk : (k : Int) < (i : Int)
                · have hk' : k < ps.length := by omega
                  have hck : x.cell? ⟨g, off + k, none⟩ = some (.complex .f32 ps[k].1 ps[k].2) := by
                    rw [HH.out.at (by simpa using hk'), List.getElem_map]; rfl
                  cases he : ceq ps[k] ps[i] with
                  | true =>
                    have he1 : (FloatKind.f32.format.order ps[k].1 ps[i].1 == some .eq && FloatKind.f32.format.order ps[k].2 ps[i].2 == some .eq) = true := he
                    have ht : isTab ps ls.length = false := isTab_not hi' (.inr ⟨k, by omega, he⟩)
                    go_wp2_with fail
                    go_ret
                    exact ⟨by first | rfl | exact ret_bool ht.symm | (subst hl2; exact ret_bool ht.symm), below_drewN' HP.out.2⟩
                  | false =>
                    have he1 : (FloatKind.f32.format.order ps[k].1 ps[i].1 == some .eq && FloatKind.f32.format.order ps[k].2 ps[i].2 == some .eq) = false := he
                    go_wp2_with fail
                    go_round
                    case rel =>
                      refine ⟨k + 1, by omega, by go_num, fun j hj h => ?_⟩
                      by_cases hjk : j = k
                      · subst hjk; exact he
                      · exact HA.out j hj (by omega)
                    case measure => simp [intOf]; omega
                · go_wp2_with fail
                  go_roundw
                  case rel =>
                    refine ⟨i + 1, _, by omega, by go_num, fun j hj h => ?_, rfl⟩
                    by_cases hji : j = i
                    · subst hji; exact ⟨hf, fun k' hk' => HA.out k' hk' (by omega)⟩
                    · exact HG.out j hj (by omega)
                  case measure => simp [intOf]; omega
        · have ht : isTab ps ls.length = true := isTab_yes (by omega) (by omega) (fun j hj h => HG.out j hj (by omega))
          go_wp2_with fail
          go_ret
          exact ⟨by first | rfl | exact ret_bool ht.symm | (subst hl2; exact ret_bool ht.symm), below_drewN' HP.out.2⟩
  · have hf : isTab ps ls.length = false := decide_eq_false fun h => by omega
    rw [hf]
    go_enter Try.func32, Try.ntmps32
    go_wp2_with fail
    go_ret
    exact ⟨rfl, HP.out.2⟩
set_option maxHeartbeats 2000000 in
theorem isTable_i (v0 v1 : Value) (ps : List (Nat × Nat)) (ls : List Int) (w : World) (ht : TabIn w v0 v1 ps ls) :
    Calls Try.prog 43 #[.agg #[v0, v1]] w fun e w' => e = .returned (.bool (isTab ps ls.length)) ∧ Below w.heap.size w w' := by
  obtain ⟨a, n, ca, b, m, cb, rfl, rfl, hp, hq, hca, hca2, -, -, hn, hm, hwf⟩ := ht
  have hl : ps.length = n := by simpa using hp.1
  have hl2 : ls.length = m := by simpa using hq.1
  have hb : Below w.heap.size w (w.alloc (Obj.cells #[Value.slice a n ca, Value.slice b m cb] 25)) := (Below.refl _ _).alloc (Nat.le_refl _) _
  have HP := Lib.hid (show _ ∧ _ from ⟨hp.below hb, hb⟩)
  have HW := Lib.hid hwf
  clear hp hq hb hwf
  by_cases hnm : (n : Int) = (m : Int)
  · by_cases h64 : (64 : Int) < (n : Int)
    · have hf : isTab ps ls.length = false := decide_eq_false fun h => by omega
      rw [hf]
      go_enter Try.func43, Try.ntmps43
      go_wp2_with fail
      go_ret
      exact ⟨rfl, HP.out.2⟩
    · go_enter Try.func43, Try.ntmps43
      go_wp2_with fail
      have hc0 : (w.alloc (Obj.cells #[Value.slice a n ca, Value.slice b m cb] 25)).cell? ⟨w.heap.size, 0, none⟩ = some (.slice a n ca) := by rw [World.cell?_alloc_new]; rfl
      have hlw : w.heap.size < (w.alloc (Obj.cells #[Value.slice a n ca, Value.slice b m cb] 25)).heap.size := by simp
      generalize w.alloc (Obj.cells #[Value.slice a n ca, Value.slice b m cb] 25) = x at *
      go_loopw [21] (fun i wr => ∃ k : Nat, k ≤ n ∧ i = .int .i64 k ∧ goodTo ps k ∧ Below x.heap.size x wr) (fun i _ => n - (intOf i).toNat)
      case atStart => exact ⟨0, by omega, rfl, fun j hj h => by omega, Below.refl _ _⟩
      case round =>
        obtain ⟨i, hi, rfl, hgood, hbel⟩ := hrel
        have HG := Lib.hid hgood
        have HB := Lib.hid hbel
        have hc1 : wr.cell? ⟨w.heap.size, 0, none⟩ = some (.slice a n ca) := by rw [hbel.cell (p := ⟨w.heap.size, 0, none⟩) hlw]; exact hc0
        have hs := HP.out.1.below hbel
        have HQ := Lib.hid (show Below w.heap.size w wr from HP.out.2.trans (hbel.mono HP.out.2.size))
        clear hgood hbel
        by_cases hlt : (i : Int) < (n : Int)
        · have hi' : i < ps.length := by omega
          rcases hs.2 with h | ⟨g, off, rfl, hh⟩
          · omega
          · have HH := Lib.hid hh
            have hcx : wr.cell? ⟨g, off + i, none⟩ = some (.complex .f32 ps[i].1 ps[i].2) := by
              rw [hh.at (by simpa using hi'), List.getElem_map]; rfl
            obtain ⟨w1, w2⟩ := HW.out _ (List.getElem_mem hi')
            clear hh hs
            go_wp2_with fail
            refine (isFinitePoint_any ps[i] _ w1 w2).mono ?_
            rintro e w3 ⟨rfl, rfl⟩
            cases hf : cfin ps[i] with
            | false =>
              have ht : isTab ps ls.length = false := isTab_not hi' (.inl hf)
              go_wp2_with fail
              go_ret
              exact ⟨by first | rfl | exact ret_bool ht.symm | (subst hl2; exact ret_bool ht.symm), HQ.out⟩
            | true =>
              have g1 : (i : Int) ≤ (ca : Int) := by omega
              have g2 : (0 : Int) ≤ (i : Int) := by omega
              go_wp2_with fail
              have hst : SlAt w3 (some ⟨g, off, none⟩) i ((ps.take i).map cx) := ⟨by simp; omega, .inr ⟨g, off, rfl, fun j hj => by
                have hj' : j < i := by simp at hj; omega
                rw [HH.out j (by simp; omega), List.map_take, List.getElem?_take, if_pos hj']⟩⟩
              refine (place_any _ i ca (ps.take i) ps[i] _ (by omega) hst).mono ?_
              rintro e w4 ⟨rfl, hb4⟩
              have HB4 := Lib.hid (show Below x.heap.size x w4 from HB.out.trans (hb4.mono HB.out.size))
              have HQ4 := Lib.hid (show Below w.heap.size w w4 from HQ.out.trans (hb4.mono HQ.out.size))
              clear hb4 hst
              rcases idx_cases (ps.take i) ps[i] with ⟨k, hk, hik, he, -⟩ | ⟨hik, hno⟩
              · have hki : k < i := by simp at hk; omega
                have ht : isTab ps ls.length = false := isTab_not hi' (.inr ⟨k, hki, by simpa using he⟩)
                rw [hik]
                clear he hk
                have h0k : (0 : Int) ≤ (k : Int) := by omega
                go_wp2_with fail
                go_ret
                exact ⟨by first | rfl | exact ret_bool ht.symm | (subst hl2; exact ret_bool ht.symm), HQ4.out⟩
              · have HN := Lib.hid hno
                clear hno
                rw [hik]
                go_wp2_with fail
                go_roundw
                case rel =>
                  refine ⟨i + 1, by omega, by go_num, fun j hj h => ?_, HB4.out⟩
                  by_cases hji : j = i
                  · subst hji
                    exact ⟨hf, fun k' hk' => by
                      have := HN.out k' (by simp; omega)
                      simpa using this⟩
                  · exact HG.out j hj (by omega)
                case measure => simp [intOf]; omega
        · have ht : isTab ps ls.length = true := isTab_yes (by omega) (by omega) (fun j hj h => HG.out j hj (by omega))
          clear hs
          go_wp2_with fail
          go_ret
          exact ⟨by first | rfl | exact ret_bool ht.symm | (subst hl2; exact ret_bool ht.symm), HQ.out⟩
  · have hf : isTab ps ls.length = false := decide_eq_false fun h => by omega
    rw [hf]
    go_enter Try.func43, Try.ntmps43
    go_wp2_with fail
    go_ret
    exact ⟨rfl, HP.out.2⟩
end Go.Proofs.Ytolflcjaglgphaa
