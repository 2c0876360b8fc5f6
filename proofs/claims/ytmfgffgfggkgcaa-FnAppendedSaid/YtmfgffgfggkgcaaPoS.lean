/-
  The reference tells whether a pool is valid, and whether a lease is lent.
-/
import Derived.Test.YtmfgffgfggkgcaaTkn
namespace Go.Proofs.Ytmfgffgfggkgcaa
open Go.RowKit
def lsD : Ls := (0, 0, 0, true)
/-- A lease of a valid pool that is lent. -/
def lentP (n : Nat) (L : List Ls) (id : Int) : Bool := decide (0 ≤ id) && (decide (id < L.length) && (isPoolP n L && !lsF (L.getD id.toNat lsD)))
def IsAns (v : Bool) (w : World) (e : Ending) (w' : World) : Prop := e = .returned (.bool v) ∧ Below w.heap.size w w'
theorem isPool_not {n : Nat} {L : List Ls} (h : oks n L = false) : isPoolP n L = false := by unfold isPoolP; rw [h]; simp
set_option maxHeartbeats 4000000 in
set_option maxRecDepth 100000 in
theorem isPool_s (B : Nat) (v0 v1 : Value) (S : List (Nat × Nat)) (L : List Ls) (w : World) (hp : PoO B w v0 v1 S L) :
    Calls Try.prog 16 #[.agg #[v0, v1]] w (IsAns (isPoolP S.length L) w) := by
  obtain ⟨a, ca, rfl⟩ := hp.o0.open
  obtain ⟨b, cb, rfl⟩ := hp.o1.open
  have hn := hp.le0
  have hm := hp.le1
  have HP := Lib.hid hp
  clear hp
  go_enter Try.func16, Try.ntmps16
  have hb1 := bel_one w (.cells #[.slice a S.length ca, .slice b L.length cb] 25)
  have HB := Lib.hid hb1
  clear hb1
  go_wp2_with fail
  refine (taken_any B _ _ S L _ (HP.out.below HB.out)).mono ?_
  rintro e w1 (⟨hok, c, cc, rfl, hown, hbel⟩ | ⟨hok, rfl, hbel⟩)
  · have H := Lib.hid (show _ ∧ _ from ⟨hown, bel_go HB.out hbel⟩)
    have HC := Lib.hid (isPool_counts hn hm hok)
    clear hown hbel hok HB
    have hlen := cntL_len S.length L
    go_wp2_with fail
    go_loop [24] (fun i => ∃ k : Nat, k ≤ S.length ∧ i = .int .i64 k ∧ ∀ t (ht : t < (cntL S.length L).length), t < k → (cntL S.length L)[t] ≤ 1) (fun i => S.length - (intOf i).toNat)
    case atStart => exact ⟨0, by omega, rfl, fun t _ h => by omega⟩
    case round =>
      obtain ⟨k, hk, rfl, hq⟩ := hrel
      have HQ := Lib.hid hq
      clear hq
      by_cases hlt : (k : Int) < (S.length : Int)
      · have hkl : k < (cntL S.length L).length := by omega
        have hks : k < S.length := by omega
        rcases row_val H.out.1 with ⟨-, h0⟩ | ⟨g, cap, he, -⟩
        · omega
        · obtain ⟨rfl, rfl⟩ : c = some ⟨g, 0, none⟩ ∧ cc = cap := by cases he; exact ⟨rfl, rfl⟩
          have hc : w1.cell? ⟨g, k, none⟩ = some (.int .i64 (cntL S.length L)[k]) := by
            have := H.out.1.cellAt k (by omega)
            rw [this]; unfold ints; rw [List.getElem?_map, List.getElem?_eq_getElem hkl]; rfl
          clear he
          generalize hx : (cntL S.length L)[k] = x at *
          have HX := Lib.hid hx
          clear hx
          by_cases hx1 : (1 : Int) < x
          · go_wp2_with fail
            go_ret
            have hE : isPoolP S.length L = false := by
              rw [HC.out, decide_eq_false]
              intro h
              have := h k hkl
              rw [HX.out] at this
              omega
            exact ⟨by rw [hE]; rfl, H.out.2⟩
          · go_wp2_with fail
            go_round
            case rel => exact ⟨k + 1, by omega, by go_num, fun t ht htk => by
              by_cases e : t = k
              · subst e; rw [HX.out]; omega
              · exact HQ.out t ht (by omega)⟩
            case measure => simp [intOf]; omega
      · go_wp2_with fail
        go_ret
        have hE : isPoolP S.length L = true := by
          rw [HC.out, decide_eq_true]
          exact fun t ht => HQ.out t ht (by omega)
        exact ⟨by rw [hE]; rfl, H.out.2⟩
  · have H := Lib.hid (bel_go HB.out hbel)
    have HC := Lib.hid (isPool_not hok)
    clear hbel hok HB
    go_wp2_with fail
    go_loop [24] (fun i => i = .int .i64 0) (fun i => 0)
    case atStart => rfl
    case round =>
      obtain rfl := hrel
      go_wp2_with fail
      go_ret
      exact ⟨by rw [HC.out]; rfl, H.out⟩
set_option maxHeartbeats 4000000 in
set_option maxRecDepth 100000 in
theorem lent_s (B : Nat) (v0 v1 : Value) (S : List (Nat × Nat)) (L : List Ls) (id : Int) (w : World) (hp : PoO B w v0 v1 S L) :
    Calls Try.prog 29 #[.agg #[v0, v1], .int .i64 id] w (IsAns (lentP S.length L id) w) := by
  obtain ⟨a, ca, rfl⟩ := hp.o0.open
  obtain ⟨b, cb, rfl⟩ := hp.o1.open
  have hn := hp.le0
  have hm := hp.le1
  have HP := Lib.hid hp
  clear hp
  go_enter Try.func29, Try.ntmps29
  have hb1 := bel_one w (.cells #[.slice a S.length ca, .slice b L.length cb] 25)
  have hx := heap_new w (.cells #[.slice a S.length ca, .slice b L.length cb] 25)
  have HB := Lib.hid (show _ ∧ _ from ⟨hb1, hx⟩)
  clear hb1 hx
  by_cases h0 : 0 ≤ id
  · by_cases h1 : id < (L.length : Int)
    · obtain ⟨k, rfl⟩ : ∃ k : Nat, id = k := ⟨id.toNat, by omega⟩
      have hkL : k < L.length := by omega
      cases hv : isPoolP S.length L with
      | false =>
        have HC := Lib.hid (show lentP S.length L k = false by unfold lentP; rw [hv]; simp)
        have HV := Lib.hid hv
        clear hv
        go_wp2_with (go_at_call 16; refine (isPool_s B _ _ S L _ (HP.out.below HB.out.1)).mono ?_; rintro e w1 ⟨rfl, hb⟩; rw [HV.out]; have HB1 := Lib.hid (bel_go HB.out.1 hb); clear hb)
        go_ret
        exact ⟨by rw [HC.out]; rfl, HB1.out⟩
      | true =>
        have hC : lentP S.length L k = !lsF L[k] := by
          unfold lentP
          rw [hv, decide_eq_true h0, decide_eq_true h1, List.getD_eq_getElem?_getD, Int.toNat_natCast, List.getElem?_eq_getElem hkL]; rfl
        have HC := Lib.hid hC
        have HV := Lib.hid hv
        clear hv hC
        go_wp2_with (go_at_call 16; refine (isPool_s B _ _ S L _ (HP.out.below HB.out.1)).mono ?_; rintro e w1 ⟨rfl, hb⟩; rw [HV.out]; have HB1 := Lib.hid (bel_go HB.out.1 hb); have hxb := (hb.block w.heap.size (by simp)).trans HB.out.2; have k1 := cell_of_row _ _ 1 _ _ _ hxb; (obtain ⟨g, rfl, -, -, -, -, c3⟩ := lease_cells (HP.out.below HB1.out).o1 hkL); simp only [List.getElem?_toArray] at k1; clear hb hxb)
        go_ret
        exact ⟨by rw [HC.out]; rfl, HB1.out⟩
    · have HC := Lib.hid (show lentP S.length L id = false by unfold lentP; rw [decide_eq_false h1]; simp)
      go_wp2_with fail
      go_ret
      exact ⟨by rw [HC.out]; rfl, HB.out.1⟩
  · have HC := Lib.hid (show lentP S.length L id = false by unfold lentP; rw [decide_eq_false h0]; rfl)
    go_wp2_with fail
    go_ret
    exact ⟨by rw [HC.out]; rfl, HB.out.1⟩
end Go.Proofs.Ytmfgffgfggkgcaa
