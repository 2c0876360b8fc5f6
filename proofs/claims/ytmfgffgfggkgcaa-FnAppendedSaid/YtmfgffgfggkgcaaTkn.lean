/-
  The reference counts, of each sample, the rooms that it is in.
-/
import Derived.Test.YtmfgffgfggkgcaaPoO
namespace Go.Proofs.Ytmfgffgfggkgcaa
open Go.RowKit
def ints (ls : List Int) : List Value := ls.map (Value.int .i64)
theorem intInfo : (Try.prog.info? 3).map (fun i => (i.zero, i.size, i.bytes)) = some (some (.int .i64 0), 1, 8) := by kernel_rfl
def TakAns (n : Nat) (L : List Ls) (w : World) (e : Ending) (w' : World) : Prop :=
  (oks n L = true ∧ ∃ a cap, e = .returned (.tuple #[.slice a n cap, .bool true]) ∧ w'.ownsRow w.heap.size 3 1 (.slice a n cap) n (ints (cntL n L)) ∧ Below w.heap.size w w') ∨
  (oks n L = false ∧ e = .returned (.tuple #[.slice none 0 0, .bool false]) ∧ Below w.heap.size w w')
theorem bel_one (w : World) (o : Obj) : Below w.heap.size w (w.alloc o) := (Below.refl _ _).alloc (Nat.le_refl _) _
theorem bel_go {x W w' : World} (h : Below x.heap.size x W) (g : Below W.heap.size W w') : Below x.heap.size x w' := h.trans (g.mono h.size)
theorem heap_new (w : World) (o : Obj) : (w.alloc o).heap[w.heap.size]? = some o := by
  show (w.heap.push _)[w.heap.size]? = _
  rw [Array.getElem?_push, if_pos rfl]
/-- The box of the argument and the row of counts. -/
structure TK (w : World) (v0 v1 : Value) (n : Nat) (xs : List Int) (y : World) : Prop where
  bel : Below w.heap.size w y
  box : y.heap[w.heap.size]? = some (.cells #[v0, v1] 25 (0, 0))
  own : y.ownsRow (w.heap.size + 1) 3 1 (.slice (some ⟨w.heap.size + 1, 0, none⟩) n n) n (ints xs)
section
variable {w y y' : World} {v0 v1 : Value} {n : Nat} {xs : List Int}
theorem TK.lt (h : TK w v0 v1 n xs y) : w.heap.size + 1 < y.heap.size := (h.own.lt _ rfl).2
theorem TK.len (h : TK w v0 v1 n xs y) : xs.length = n := by simpa [ints] using h.own.1
theorem TK.keep (h : TK w v0 v1 n xs y) (hb : Below y.heap.size y y') : TK w v0 v1 n xs y' := by
  have := h.lt
  exact ⟨bel_go h.bel hb, (hb.block _ (by omega)).trans h.box, row_below h.own hb⟩
theorem TK.cells (h : TK w v0 v1 n xs y) : y.cell? ⟨w.heap.size, 0, none⟩ = some v0 ∧ y.cell? ⟨w.heap.size, 1, none⟩ = some v1 := ⟨cell_of_row _ _ 0 _ _ _ h.box, cell_of_row _ _ 1 _ _ _ h.box⟩
theorem TK.at (h : TK w v0 v1 n xs y) {j : Nat} (hj : j < xs.length) : y.cell? ⟨w.heap.size + 1, j, none⟩ = some (.int .i64 xs[j]) ∧ y.frozen? ⟨w.heap.size + 1, j, none⟩ = false := by
  have := h.len
  refine ⟨?_, h.own.frozenAt j⟩
  rw [h.own.cellAt j (by omega)]
  unfold ints
  rw [List.getElem?_map, List.getElem?_eq_getElem hj]; rfl
theorem TK.store (h : TK w v0 v1 n xs y) (j : Nat) (v : Int) : TK w v0 v1 n (xs.set j v) (y.setCell ⟨w.heap.size + 1, j, none⟩ (.int .i64 v)) := by
  refine ⟨h.bel.setCell (Nat.le_succ _) _, ?_, ?_⟩
  · rw [heap_setCell_other _ _ _ _ (by simp)]; exact h.box
  · have := h.own.stored j (.int .i64 v)
    have e : ints (xs.set j v) = (ints xs).set j (.int .i64 v) := by unfold ints; rw [List.map_set]
    rw [e]; exact this.1
end
theorem oks_snoc {n k : Nat} {L : List Ls} (hk : k < L.length) (h : oks n (L.take k) = true) (h' : okL n L[k]) : oks n (L.take (k + 1)) = true := by
  unfold oks at *
  rw [decide_eq_true_eq] at *
  intro l hl
  rw [List.take_succ_eq_append_getElem hk, List.mem_append, List.mem_singleton] at hl
  rcases hl with hl | rfl
  · exact h l hl
  · exact h'
theorem oks_not {n k : Nat} {L : List Ls} (hk : k < L.length) (h' : ¬ okL n L[k]) : oks n L = false := by
  unfold oks
  rw [decide_eq_false_iff_not]
  exact fun h => h' (h _ (List.getElem_mem hk))
theorem inB_t {x a b : Int} (h : inB x a b = true) : a ≤ x ∧ x ≤ b := by simpa [inB] using h
theorem inB_f {x a b : Int} (h : inB x a b = false) : ¬ (a ≤ x ∧ x ≤ b) := by
  intro ⟨h1, h2⟩
  simp [inB, h1, h2] at h
theorem okL_free {n : Nat} {l : Ls} (hf : lsF l = true) : okL n l ↔ lsS l = 0 ∧ lsC l = 0 ∧ lsR l = 0 := by unfold okL; rw [if_pos hf]
theorem okL_lent {n : Nat} {l : Ls} (hf : lsF l = false) : okL n l ↔ inB (lsS l) 0 n = true ∧ inB (lsR l) 1 (n - lsS l) = true ∧ inB (lsC l) 0 (lsR l) = true := by
  unfold okL
  rw [if_neg (by rw [hf]; decide)]
  simp [inB, and_assoc]
set_option maxHeartbeats 4000000 in
set_option maxRecDepth 100000 in
theorem taken_any (B : Nat) (v0 v1 : Value) (S : List (Nat × Nat)) (L : List Ls) (w : World) (hp : PoO B w v0 v1 S L) :
    Calls Try.prog 33 #[.agg #[v0, v1]] w (TakAns S.length L w) := by
  obtain ⟨a, ca, rfl⟩ := hp.o0.open
  obtain ⟨b, cb, rfl⟩ := hp.o1.open
  obtain ⟨n, hSn⟩ : ∃ n, n = S.length := ⟨_, rfl⟩
  obtain ⟨m, hLm⟩ : ∃ m, m = L.length := ⟨_, rfl⟩
  have hn : n ≤ 256 := by rw [hSn]; exact hp.le0
  have hm : m ≤ 16 := by rw [hLm]; exact hp.le1
  have HP := Lib.hid (fun W h => hp.below (w' := W) h)
  have HL := Lib.hid hLm
  have HPb := Lib.hid hp
  clear hp
  rw [← hSn, ← hLm]
  clear hSn hLm
  obtain ⟨i0, hi, hz0, hz1, hz2⟩ := info_parts intInfo
  have hmk : ∀ w, (Instr.makeSlice 55 (.int .i64 n) (.int .i64 n)).run Try.prog w = .ok (.slice (some ⟨w.heap.size, 0, none⟩) n n) (w.alloc (.cells (madeCells #[.int .i64 0] n) 3)) := by
    intro w
    have := run_make (P := Try.prog) w 55 3 i0 (.int .i64 0) Try.underlying55 hi hz0 .i64 .i64 n n (by omega) (by omega) (by rw [hz2]; omega) (by omega)
    rw [hz1] at this
    simpa [Value.cells] using this
  go_enter Try.func33, Try.ntmps33
  go_wp2_with fail
  clear hmk
  have hS : TK w (.slice a n ca) (.slice b m cb) n (cntL n (L.take 0)) ((w.alloc (Obj.cells #[Value.slice a n ca, Value.slice b m cb] 25)).alloc (Obj.cells (madeCells #[Value.int IntKind.i64 0] n) 3)) := by
    refine ⟨(bel_one _ _).alloc (by simp) _, ?_, ?_⟩
    · rw [Below.heap_alloc _ _ _ (by simp)]; exact heap_new _ _
    · have := World.ownsRow_lit (base := w.heap.size + 1) (e := 3) (size := 1) (w.alloc (Obj.cells #[Value.slice a n ca, Value.slice b m cb] 25)) (madeCells #[.int .i64 0] n) n (by simp) (by unfold maxLen; omega) (by rw [size_madeCells]; omega)
      rw [toList_madeCells_one, World.size_alloc] at this
      have e : ints (cntL n (L.take 0)) = List.replicate n (Value.int .i64 0) := by
        apply List.ext_getElem
        · simp [ints, cntL_len]
        · intro j h1 h2
          simp [ints, cntL, cnt]
      rw [e]; exact this
  have HS := Lib.hid hS
  clear hS
  go_loopw [15] (fun i wr => ∃ k : Nat, k ≤ m ∧ i = .int .i64 k ∧ oks n (L.take k) = true ∧ TK w (.slice a n ca) (.slice b m cb) n (cntL n (L.take k)) wr) (fun i _ => m - (intOf i).toNat)
  case atStart => exact ⟨0, by omega, rfl, rfl, HS.out⟩
  case round =>
    clear HS
    obtain ⟨k, hk, rfl, hok, hT⟩ := hrel
    obtain ⟨k0, k1⟩ := hT.cells
    have hsz := hT.lt
    have HT := Lib.hid hT
    clear hT
    have HO := Lib.hid hok
    clear hok
    by_cases hlt : (k : Int) < (m : Int)
    · have hkL : k < L.length := by rw [← HL.out]; omega
      obtain ⟨g, rfl, -, c0, c1, c2, c3⟩ := lease_cells (i := k) (HP.out _ HT.out.bel).o1 hkL
      generalize hl : L[k] = l at *
      have HLk := Lib.hid hl
      clear hl
      cases hf : lsF l with
      | true =>
        by_cases hall : lsS l = 0 ∧ lsC l = 0 ∧ lsR l = 0
        · obtain ⟨hs0, hc0, hr0⟩ := hall
          have HK := Lib.hid (show oks n (L.take (k + 1)) = true ∧ cntL n (L.take (k + 1)) = cntL n (L.take k) from ⟨oks_snoc hkL HO.out (by rw [HLk.out]; exact (okL_free hf).2 ⟨hs0, hc0, hr0⟩), by rw [List.take_succ_eq_append_getElem hkL, HLk.out]; exact cntP_free hf⟩)
          rw [hf] at c3
          rw [hs0] at c0
          rw [hc0] at c1
          rw [hr0] at c2
          clear hf hs0 hc0 hr0
          go_wp2_with fail
          go_roundw
          case rel => exact ⟨k + 1, by omega, by go_num, HK.out.1, by rw [HK.out.2]; exact HT.out.keep (bel_one _ _)⟩
          case measure => simp [intOf]; omega
        · have HN := Lib.hid (oks_not (n := n) hkL (by rw [HLk.out, okL_free (n := n) hf]; exact hall))
          rw [hf] at c3
          clear hf
          by_cases hs0 : lsS l = 0
          · by_cases hc0 : lsC l = 0
            · have hr0 : ¬ lsR l = 0 := fun h => hall ⟨hs0, hc0, h⟩
              clear hall
              go_wp2_with fail
              go_ret2
              exact .inr ⟨HN.out, rfl, (HT.out.keep (bel_one _ _)).bel⟩
            · clear hall
              go_wp2_with fail
              go_ret2
              exact .inr ⟨HN.out, rfl, (HT.out.keep (bel_one _ _)).bel⟩
          · clear hall
            go_wp2_with fail
            go_ret2
            exact .inr ⟨HN.out, rfl, (HT.out.keep (bel_one _ _)).bel⟩
      | false =>
        have hq := okL_lent (n := n) hf
        have HF := Lib.hid hf
        rw [hf] at c3
        clear hf
        have hw := HT.out.keep (bel_one wr (.cells #[.int .i64 (lsS l), .int .i64 (lsC l), .int .i64 (lsR l), .bool false] 52))
        obtain ⟨k2, k3⟩ := hw.cells
        have HW := Lib.hid hw
        clear hw
        cases e1 : inB (lsS l) 0 n with
        | false =>
          have HN := Lib.hid (oks_not (n := n) hkL (by rw [HLk.out, hq, e1]; exact fun h => by cases h.1))
          have E1 := Lib.hid e1
          clear e1 hq
          go_wp2_with (go_at_call 18; refine (l1In_any _ _ _ _).mono ?_; rintro e w' ⟨rfl, rfl⟩; rw [E1.out])
          go_ret2
          exact .inr ⟨HN.out, rfl, (HT.out.keep (bel_one _ _)).bel⟩
        | true =>
          obtain ⟨p1, p2⟩ := inB_t e1
          cases e2 : inB (lsR l) 1 (n - lsS l) with
          | false =>
            have HN := Lib.hid (oks_not (n := n) hkL (by rw [HLk.out, hq, e2]; exact fun h => by cases h.2.1))
            have E1 := Lib.hid e1
            have E2 := Lib.hid e2
            clear e1 e2 hq
            go_wp2_with (go_at_call 18; refine (l1In_any _ _ _ _).mono ?_; rintro e w' ⟨rfl, rfl⟩; first | rw [E1.out] | rw [E2.out])
            go_ret2
            exact .inr ⟨HN.out, rfl, (HT.out.keep (bel_one _ _)).bel⟩
          | true =>
            obtain ⟨p3, p4⟩ := inB_t e2
            cases e3 : inB (lsC l) 0 (lsR l) with
            | false =>
              have HN := Lib.hid (oks_not (n := n) hkL (by rw [HLk.out, hq, e3]; exact fun h => by cases h.2.2))
              have E1 := Lib.hid e1
              have E2 := Lib.hid e2
              have E3 := Lib.hid e3
              clear e1 e2 e3 hq
              go_wp2_with (go_at_call 18; refine (l1In_any _ _ _ _).mono ?_; rintro e w' ⟨rfl, rfl⟩; first | rw [E1.out] | rw [E2.out] | rw [E3.out])
              go_ret2
              exact .inr ⟨HN.out, rfl, (HT.out.keep (bel_one _ _)).bel⟩
            | true =>
              have HY := Lib.hid (oks_snoc hkL HO.out (by rw [HLk.out]; exact hq.2 ⟨e1, e2, e3⟩))
              have E1 := Lib.hid e1
              have E2 := Lib.hid e2
              have E3 := Lib.hid e3
              clear e1 e2 e3 hq
              go_wp2_with (go_at_call 18; refine (l1In_any _ _ _ _).mono ?_; rintro e w' ⟨rfl, rfl⟩; first | rw [E1.out] | rw [E2.out] | rw [E3.out])
              have hD := heap_new wr (.cells #[.int .i64 (lsS l), .int .i64 (lsC l), .int .i64 (lsR l), .bool false] 52)
              generalize wr.alloc (.cells #[.int .i64 (lsS l), .int .i64 (lsC l), .int .i64 (lsR l), .bool false] 52) = y at *
              generalize wr.heap.size = D at *
              have HD := Lib.hid hD
              clear hD k0 k1 k2 k3 c0 c1 c2 c3 HT
              have hb0 : L.length ≤ 16 := by rw [← HL.out]; exact hm
              have hb : (L.take k).length ≤ 16 := by rw [List.length_take]; omega
              have HB := Lib.hid hb
              clear hb hb0
              go_loopw [7] (fun i wi => ∃ j : Nat, lsS l ≤ j ∧ (j : Int) ≤ lsS l + lsR l ∧ i = .int .i64 j ∧ TK w (.slice a n ca) (.slice (some ⟨g, 0, none⟩) m cb) n (cntP n (L.take k) l j) wi ∧ wi.heap[D]? = some (.cells #[.int .i64 (lsS l), .int .i64 (lsC l), .int .i64 (lsR l), .bool false] 52 (0, 0))) (fun i _ => (lsS l + lsR l).toNat - (intOf i).toNat)
              case atStart =>
                refine ⟨(lsS l).toNat, by omega, by omega, by rw [Int.toNat_of_nonneg p1], ?_, HD.out⟩
                rw [cntP_start (by omega)]; exact HW.out
              case round =>
                clear HW HD
                obtain ⟨j, hj1, hj2, rfl, hT, hD⟩ := hrel
                have d0 := cell_of_row _ _ 0 _ _ _ hD
                have d2 := cell_of_row _ _ 2 _ _ _ hD
                simp only [List.getElem?_toArray] at d0 d2
                have HT := Lib.hid hT
                have HD := Lib.hid hD
                clear hT hD
                by_cases hlj : (j : Int) < lsS l + lsR l
                · have hjn : j < (cntP n (L.take k) l j).length := by rw [cntP_len]; omega
                  have hjn' : j < n := by omega
                  obtain ⟨t0, t1⟩ := HT.out.at hjn
                  have hbd := cntP_bd hjn HB.out
                  have HSt := Lib.hid (cntP_step (L := L.take k) HF.out hj1 hlj hjn')
                  have HS2 := Lib.hid (fun v => HT.out.store j v)
                  generalize hx : (cntP n (L.take k) l j)[j] = x at *
                  have HX := Lib.hid hx
                  clear hx
                  obtain ⟨b1, b2⟩ := hbd
                  go_wp2_with fail
                  go_roundw
                  case rel => exact ⟨j + 1, by omega, by omega, by go_num, by have := HS2.out (x + 1); rw [HSt.out] at this; exact this, by rw [heap_setCell_other _ _ _ _ (Nat.ne_of_gt hsz)]; exact HD.out⟩
                  case measure => simp [intOf]; omega
                · have HE := Lib.hid (show cntP n (L.take k) l j = cntL n (L.take (k + 1)) by rw [List.take_succ_eq_append_getElem hkL, HLk.out]; exact cntP_end (by omega))
                  go_wp2_with fail
                  go_roundw
                  case rel => exact ⟨k + 1, by omega, by go_num, HY.out, by rw [← HE.out]; exact HT.out⟩
                  case measure => simp [intOf]; omega
    · obtain rfl : k = m := by omega
      clear k0 k1
      go_wp2_with fail
      go_ret2
      refine .inl ⟨by have := HO.out; rwa [HL.out, List.take_length] at this, _, _, rfl, ?_, HT.out.bel⟩
      have := HT.out.own
      rw [HL.out, List.take_length] at this
      exact row_base this (Nat.le_succ _)
end Go.Proofs.Ytmfgffgfggkgcaa
