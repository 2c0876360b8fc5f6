/-
  IsPool of the program.
-/
import Derived.Test.YtmfgffgfggkgcaaCpP
namespace Go.Proofs.Ytmfgffgfggkgcaa
open Go.RowKit
/-- The leases of a valid pool so far: each fits, and lies apart from those before it. -/
def okI (n : Nat) (L : List Ls) : Bool := oks n L && decide (L.Pairwise apart)
theorem okI_snoc {n k : Nat} {L : List Ls} (hk : k < L.length) (h : okI n (L.take k) = true) (h1 : okL n L[k]) (h2 : ∀ t (ht : t < L.length), t < k → apart L[t] L[k]) : okI n (L.take (k + 1)) = true := by
  unfold okI at *
  rw [Bool.and_eq_true, decide_eq_true_eq] at *
  refine ⟨oks_snoc hk h.1 h1, ?_⟩
  rw [List.take_succ_eq_append_getElem hk, List.pairwise_append]
  refine ⟨h.2, by simp, fun a ha b hb => ?_⟩
  rw [List.mem_singleton] at hb
  subst hb
  obtain ⟨t, ht, rfl⟩ := List.getElem_of_mem ha
  rw [List.length_take] at ht
  rw [List.getElem_take]
  exact h2 t (by omega) (by omega)
theorem pool_bad {n k : Nat} {L : List Ls} (hk : k < L.length) (h : ¬ okL n L[k]) : isPoolP n L = false := by
  unfold isPoolP
  rw [oks_not hk h]; simp
theorem pool_near {n t k : Nat} {L : List Ls} (hk : k < L.length) (ht : t < k) (h : ¬ apart (L[t]'(by omega)) L[k]) : isPoolP n L = false := by
  unfold isPoolP
  have : decide (L.Pairwise apart) = false := by
    rw [decide_eq_false_iff_not]
    intro hp
    rw [List.pairwise_iff_getElem] at hp
    exact h (hp t k (by omega) hk ht)
  rw [this]; simp
theorem pool_good {n : Nat} {L : List Ls} (h0 : n ≤ 256) (h1 : L.length ≤ 16) (h : okI n L = true) : isPoolP n L = true := by
  unfold isPoolP
  unfold okI at h
  rw [decide_eq_true h0, decide_eq_true h1, Bool.true_and, Bool.true_and]
  exact h
theorem okL_i {n : Nat} {l : Ls} (hf : lsF l = false) : okL n l ↔ 0 ≤ lsS l ∧ 1 ≤ lsR l ∧ 0 ≤ lsC l ∧ lsC l ≤ lsR l ∧ lsR l ≤ n ∧ lsS l ≤ n - lsR l := by
  unfold okL
  rw [if_neg (by rw [hf]; decide)]
  omega
set_option maxHeartbeats 4000000 in
set_option maxRecDepth 100000 in
theorem isPool_i (B : Nat) (v0 v1 : Value) (S : List (Nat × Nat)) (L : List Ls) (w : World) (hp : PoO B w v0 v1 S L) :
    Calls Try.prog 30 #[.agg #[v0, v1]] w (IsAns (isPoolP S.length L) w) := by
  obtain ⟨a, ca, rfl⟩ := hp.o0.open
  obtain ⟨b, cb, rfl⟩ := hp.o1.open
  have hn := hp.le0
  have hm := hp.le1
  have HP := Lib.hid (fun W h => hp.below (w' := W) h)
  clear hp
  have hb1 := bel_one w (.cells #[.slice a S.length ca, .slice b L.length cb] 25)
  have hx := heap_new w (.cells #[.slice a S.length ca, .slice b L.length cb] 25)
  have HB := Lib.hid (show _ ∧ _ from ⟨hb1, hx⟩)
  clear hb1 hx
  go_enter Try.func30, Try.ntmps30
  go_wp2_with fail
  go_loopw [20] (fun t wr => ∃ k : Nat, k ≤ L.length ∧ t = .int .i64 k ∧ okI S.length (L.take k) = true ∧ Below w.heap.size w wr ∧ wr.heap[w.heap.size]? = some (.cells #[.slice a S.length ca, .slice b L.length cb] 25 (0, 0))) (fun t _ => L.length - (intOf t).toNat)
  case atStart => exact ⟨0, by omega, rfl, rfl, HB.out.1, HB.out.2⟩
  case round =>
    clear HB
    obtain ⟨k, hk, rfl, hok, hbel, hbox⟩ := hrel
    have HI := Lib.hid (show _ ∧ _ ∧ _ from ⟨hok, hbel, hbox⟩)
    have hsz : w.heap.size < wr.heap.size := (Array.getElem?_eq_some_iff.1 hbox).1
    have k0 := cell_of_row _ _ 0 _ _ _ hbox
    have k1 := cell_of_row _ _ 1 _ _ _ hbox
    simp only [List.getElem?_toArray] at k0 k1
    clear hok hbel hbox
    by_cases hlt : (k : Int) < (L.length : Int)
    · have hkL : k < L.length := by omega
      obtain ⟨g, rfl, -, c0, c1, c2, c3⟩ := lease_cells (i := k) (HP.out _ HI.out.2.1).o1 hkL
      generalize hl : L[k] = l at *
      have HLk := Lib.hid hl
      clear hl
      cases hf : lsF l with
      | true =>
        rw [hf] at c3
        by_cases hall : lsS l = 0 ∧ lsC l = 0 ∧ lsR l = 0
        · obtain ⟨hs0, hc0, hr0⟩ := hall
          have HK := Lib.hid (show okI S.length (L.take (k + 1)) = true from okI_snoc hkL HI.out.1 (by rw [HLk.out]; exact (okL_free hf).2 ⟨hs0, hc0, hr0⟩) (fun t _ _ => by rw [HLk.out]; exact .inr (.inl hf)))
          rw [hs0] at c0
          rw [hc0] at c1
          rw [hr0] at c2
          clear hf hs0 hc0 hr0
          go_wp2_with fail
          go_roundw
          case rel => exact ⟨k + 1, by omega, by go_num, HK.out, bel_go HI.out.2.1 (bel_one _ _), (Below.heap_alloc _ _ _ hsz).trans HI.out.2.2⟩
          case measure => simp [intOf]; omega
        · have HN := Lib.hid (pool_bad (n := S.length) hkL (by rw [HLk.out, okL_free (n := S.length) hf]; exact hall))
          clear hf
          go_wp2_with fail
          all_goals
            go_ret
            exact ⟨by rw [HN.out]; rfl, bel_go HI.out.2.1 (bel_one _ _)⟩
      | false =>
        have HNf := Lib.hid (fun h => pool_bad (n := S.length) (k := k) (L := L) hkL h)
        have HQ := Lib.hid (okL_i (n := S.length) hf)
        have HF := Lib.hid hf
        rw [hf] at c3
        clear hf
        have hw := bel_one wr (.cells #[.int .i64 (lsS l), .int .i64 (lsC l), .int .i64 (lsR l), .bool false] 52)
        have hwb := (Below.heap_alloc wr (.cells #[.int .i64 (lsS l), .int .i64 (lsC l), .int .i64 (lsR l), .bool false] 52) _ hsz).trans HI.out.2.2
        have hwE := heap_new wr (.cells #[.int .i64 (lsS l), .int .i64 (lsC l), .int .i64 (lsR l), .bool false] 52)
        have k2 := cell_of_row _ _ 0 _ _ _ hwb
        have k3 := cell_of_row _ _ 1 _ _ _ hwb
        simp only [List.getElem?_toArray] at k2 k3
        have HW := Lib.hid (show _ ∧ _ ∧ _ from ⟨bel_go HI.out.2.1 hw, hwb, hwE⟩)
        clear hw hwb hwE
        by_cases p1 : lsS l < 0
        · have HN := Lib.hid (HNf.out (fun h => by rw [HLk.out, HQ.out] at h; omega))
          go_wp2_with fail
          go_ret
          exact ⟨by rw [HN.out]; rfl, HW.out.1⟩
        by_cases p2 : lsR l < 1
        · have HN := Lib.hid (HNf.out (fun h => by rw [HLk.out, HQ.out] at h; omega))
          go_wp2_with fail
          go_ret
          exact ⟨by rw [HN.out]; rfl, HW.out.1⟩
        by_cases p3 : lsC l < 0
        · have HN := Lib.hid (HNf.out (fun h => by rw [HLk.out, HQ.out] at h; omega))
          go_wp2_with fail
          go_ret
          exact ⟨by rw [HN.out]; rfl, HW.out.1⟩
        by_cases p4 : lsR l < lsC l
        · have HN := Lib.hid (HNf.out (fun h => by rw [HLk.out, HQ.out] at h; omega))
          go_wp2_with fail
          go_ret
          exact ⟨by rw [HN.out]; rfl, HW.out.1⟩
        by_cases p5 : (S.length : Int) < lsR l
        · have HN := Lib.hid (HNf.out (fun h => by rw [HLk.out, HQ.out] at h; omega))
          go_wp2_with fail
          go_ret
          exact ⟨by rw [HN.out]; rfl, HW.out.1⟩
        by_cases p6 : (S.length : Int) - lsR l < lsS l
        · have HN := Lib.hid (HNf.out (fun h => by rw [HLk.out, HQ.out] at h; omega))
          go_wp2_with fail
          go_ret
          exact ⟨by rw [HN.out]; rfl, HW.out.1⟩
        have HY := Lib.hid (show okL S.length l from HQ.out.2 (by omega))
        clear HNf HQ
        have hkc : k ≤ cb := by
          have := (HP.out _ HI.out.2.1).o1.own (by omega)
          rcases row_val this with ⟨he, -⟩ | ⟨_, _, he, -, -, h, -⟩
          · cases he
          · cases he; omega
        go_upto_region 11 with fail
        generalize wr.alloc (.cells #[.int .i64 (lsS l), .int .i64 (lsC l), .int .i64 (lsR l), .bool false] 52) = y at *
        generalize wr.heap.size = E at *
        clear k0 k1 c0 c1 c2 c3
        go_wp2_with fail
        clear k2 k3
        go_loopw [74] (fun q wi => ∃ t : Nat, t ≤ k ∧ q = .int .i64 t ∧ (∀ u (hu : u < L.length), u < t → apart L[u] l) ∧ Below w.heap.size w wi ∧ wi.heap[w.heap.size]? = some (.cells #[.slice a S.length ca, .slice (some ⟨g, 0, none⟩) L.length cb] 25 (0, 0)) ∧ wi.heap[E]? = some (.cells #[.int .i64 (lsS l), .int .i64 (lsC l), .int .i64 (lsR l), .bool false] 52 (0, 0))) (fun q _ => k - (intOf q).toNat)
        case atStart => exact ⟨0, by omega, rfl, (fun u _ h => by omega), HW.out.1, HW.out.2.1, HW.out.2.2⟩
        case round =>
          clear HW
          obtain ⟨t, ht, rfl, hap, hbel, hbox, hE⟩ := hrel
          have HJ := Lib.hid (show _ ∧ _ ∧ _ ∧ _ from ⟨hap, hbel, hbox, hE⟩)
          have hEl := (Array.getElem?_eq_some_iff.1 hE).1
          have hwl := (Array.getElem?_eq_some_iff.1 hbox).1
          have e0 := cell_of_row _ _ 0 _ _ _ hE
          have e2 := cell_of_row _ _ 2 _ _ _ hE
          simp only [List.getElem?_toArray] at e0 e2
          clear hap hbel hbox hE
          by_cases htk : (t : Int) < (k : Int)
          · have htl : t < L.length := by omega
            have htk' : t < k := by omega
            obtain ⟨g', eg, -, c0, c1, c2, c3⟩ := lease_cells (i := t) (HP.out _ HJ.out.2.1).o1 htl
            cases eg
            have HMok := Lib.hid (show okL S.length L[t] by
              have h := HI.out.1
              unfold okI at h
              rw [Bool.and_eq_true] at h
              have h2 := of_decide_eq_true h.1
              exact h2 _ (by rw [List.mem_take_iff_getElem]; exact ⟨t, by omega, rfl⟩))
            have HNear := Lib.hid (fun h => pool_near (n := S.length) (L := L) hkL htk' h)
            have HBd := Lib.hid (fun hf => in_room HMok.out hf)
            generalize hl2 : L[t] = m at *
            have HLt := Lib.hid hl2
            clear hl2
            have hstep : apart m l → ∀ u (hu : u < L.length), u < t + 1 → apart L[u] l := fun h u hu hut => by
              by_cases e : u = t
              · subst e; rw [HLt.out]; exact h
              · exact HJ.out.1 u hu (by omega)
            have HSt := Lib.hid hstep
            clear hstep
            have hw2 := fun f => bel_one wr (.cells #[.int .i64 (lsS m), .int .i64 (lsC m), .int .i64 (lsR m), .bool f] 52)
            have q0 := fun f => (hw2 f).cell (p := ⟨E, 0, none⟩) hEl
            have q2 := fun f => (hw2 f).cell (p := ⟨E, 2, none⟩) hEl
            have HQ2 := Lib.hid (fun f => (show _ ∧ _ ∧ _ from ⟨bel_go HJ.out.2.1 (hw2 f), ((hw2 f).block _ hwl).trans HJ.out.2.2.1, ((hw2 f).block _ hEl).trans HJ.out.2.2.2⟩))
            simp only [e0] at q0
            simp only [e2] at q2
            clear hw2
            cases hf : lsF m with
            | true =>
              have HA := Lib.hid (show apart m l from .inl hf)
              rw [hf] at c3
              clear hf
              go_wp2_with fail
              go_roundw
              case rel => exact ⟨t + 1, by omega, by go_num, HSt.out HA.out, HQ2.out true⟩
              case measure => simp [intOf]; omega
            | false =>
              obtain ⟨b1, b2, b3, b4, b5, b6⟩ := HBd.out hf
              have HF2 := Lib.hid hf
              rw [hf] at c3
              clear hf
              by_cases hA : lsS m < lsS l + lsR l
              · by_cases hB : lsS l < lsS m + lsR m
                · have HN := Lib.hid (HNear.out (by
                    rw [HLk.out]
                    unfold apart
                    rw [HF2.out, HF.out]
                    intro h
                    rcases h with h | h | h | h
                    · cases h
                    · cases h
                    · omega
                    · omega))
                  go_wp2_with fail
                  go_ret
                  exact ⟨by rw [HN.out]; rfl, (HQ2.out false).1⟩
                · have HA := Lib.hid (show apart m l from .inr (.inr (.inl (by omega))))
                  go_wp2_with fail
                  go_roundw
                  case rel => exact ⟨t + 1, by omega, by go_num, HSt.out HA.out, HQ2.out false⟩
                  case measure => simp [intOf]; omega
              · have HA := Lib.hid (show apart m l from .inr (.inr (.inr (by omega))))
                go_wp2_with fail
                go_roundw
                case rel => exact ⟨t + 1, by omega, by go_num, HSt.out HA.out, HQ2.out false⟩
                case measure => simp [intOf]; omega
          · obtain rfl : t = k := by omega
            have HK := Lib.hid (show okI S.length (L.take (t + 1)) = true from okI_snoc hkL HI.out.1 (by rw [HLk.out]; exact HY.out) (fun u hu hut => by rw [HLk.out]; exact HJ.out.1 u hu hut))
            go_wp2_with fail
            go_roundw
            case rel => exact ⟨t + 1, by omega, by go_num, HK.out, HJ.out.2.1, HJ.out.2.2.1⟩
            case measure => simp [intOf]; omega
    · obtain rfl : k = L.length := by omega
      go_wp2_with fail
      go_ret
      refine ⟨?_, HI.out.2.1⟩
      rw [pool_good hn hm (by have := HI.out.1; rwa [List.take_length] at this)]; rfl
end Go.Proofs.Ytmfgffgfggkgcaa
