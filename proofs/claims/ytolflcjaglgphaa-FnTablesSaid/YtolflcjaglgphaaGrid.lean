/-
  GridTable of the program and of the reference: the points and the labels of a grid, in blocks of their own.
-/
import Derived.Test.YtolflcjaglgphaaMark
import Derived.Test.YtolflcjaglgphaaFromS
import Derived.Test.YtolflcjaglgphaaKp
import Derived.Handy
namespace Go.Proofs.Ytolflcjaglgphaa
open Go.RowKit

/-- A point of the grid; its label. -/
def gp (s i k : Nat) : Nat × Nat := (floatOfInt .f32 (2 * (i : Int) - s + 1), floatOfInt .f32 (2 * (k : Int) - s + 1))
def gl (s i k : Nat) : Value := .int .i64 ((i : Int) * s + k)
/-- What was written when i rows and k more are done. -/
def grid {α : Type} (f : Nat → Nat → α) (s i k : Nat) : List α := (List.range i).flatMap (fun a => (List.range s).map (f a)) ++ (List.range k).map (f i)
theorem grid_snoc {α : Type} (f : Nat → Nat → α) (s i k : Nat) : grid f s i (k + 1) = grid f s i k ++ [f i k] := by
  unfold grid; rw [List.range_succ, List.map_append, List.append_assoc]; rfl
theorem grid_row {α : Type} (f : Nat → Nat → α) (s i : Nat) : grid f s i s = grid f s (i + 1) 0 := by
  unfold grid; rw [List.range_succ, List.flatMap_append]; simp
theorem grid_len {α : Type} (f : Nat → Nat → α) (s i k : Nat) : (grid f s i k).length = i * s + k := by
  unfold grid
  rw [List.length_append, List.length_map, List.length_range, List.length_flatMap]
  congr 1
  induction i with
  | zero => simp
  | succ i ih => rw [List.range_succ, List.map_append, List.sum_append, ih, Nat.succ_mul]; simp
theorem intInfo : (Try.prog.info? 3).map (fun i => (i.zero, i.size, i.bytes)) = some (some (.int .i64 0), 1, 8) := by kernel_rfl
theorem cxInfo : (Try.prog.info? 33).map (fun i => (i.zero, i.size, i.bytes)) = some (some (.complex .f32 0 0), 1, 8) := by kernel_rfl
/-- Where the loops stand. -/
def GR (w : World) (s i k : Nat) (wr : World) : Prop :=
  Below w.heap.size w wr ∧ ∃ v0 v1, wr.ownsRow (w.heap.size + 2) 33 1 v0 (i * s + k) ((grid (gp s) s i k).map cx) ∧ wr.ownsRow (w.heap.size + 2) 3 1 v1 (i * s + k) (grid (gl s) s i k) ∧
    wr.heap[w.heap.size + 1]? = some (.cells #[v0, v1] 25 (0, 0)) ∧ wr.heap[w.heap.size]? = some (.cells #[.slice none 0 0, .slice none 0 0] 25 (0, 0))
def TabAns (n : Int) (w : World) (e : Ending) (w' : World) : Prop :=
  (1 ≤ n ∧ n ≤ 8 ∧ ∃ v0 v1, e = .returned (.tuple #[.agg #[v0, v1], .bool true]) ∧ w'.ownsRow w.heap.size 33 1 v0 (n.toNat * n.toNat) ((grid (gp n.toNat) n.toNat n.toNat 0).map cx) ∧ w'.ownsRow w.heap.size 3 1 v1 (n.toNat * n.toNat) (grid (gl n.toNat) n.toNat n.toNat 0) ∧ Below w.heap.size w w') ∨
  (¬ (1 ≤ n ∧ n ≤ 8) ∧ e = .returned (.tuple #[.agg #[.slice none 0 0, .slice none 0 0], .bool false]) ∧ Below w.heap.size w w')
theorem grown_kp {c : Nat} {w w' : World} (h : Kp c w w') : w.grownBy w' (some c) := ⟨h.os, h.tape, h.output, h.size, fun k hk hc => h.block k hk (fun e => hc (by rw [e]))⟩
theorem own_setCell {w : World} {base e n c j : Nat} {v u : Value} {xs : List Value} (h : w.ownsRow base e 1 v n xs) (hc : c < base) : (w.setCell ⟨c, j, none⟩ u).ownsRow base e 1 v n xs := by
  refine h.kept (grown_kp ((Kp.refl c w).setCell u)) ?_
  cases hv : v.ownBlock with
  | none => exact .inl rfl
  | some g => right; intro he; cases he; have := (h.lt c hv).1; omega
theorem own_apart {w : World} {b b' e e' n n' : Nat} {v v' : Value} {xs xs' : List Value} (h : w.ownsRow b e 1 v n xs) (h' : w.ownsRow b' e' 1 v' n' xs') (hne : e ≠ e') : v.ownBlock = none ∨ v.ownBlock ≠ v'.ownBlock := by
  rcases h.2 with ⟨rfl, _⟩ | ⟨g, cap, cur, rfl, _, hg, _⟩
  · exact .inl rfl
  · right
    intro he
    rcases h'.2 with ⟨rfl, _⟩ | ⟨g', cap', cur', rfl, _, hg', _⟩
    · cases he
    · cases he
      rw [hg] at hg'
      cases hg'
      exact hne rfl
theorem owns_some {w : World} {base e n : Nat} {v : Value} {xs : List Value} (h : w.ownsRow base e 1 v n xs) (hn : 1 ≤ n) : ∃ g cap, v = .slice (some ⟨g, 0, none⟩) n cap ∧ base ≤ g := by
  rcases h.2 with ⟨_, h0⟩ | ⟨g, cap, _, h1, h2, _⟩
  · omega
  · exact ⟨g, cap, h1, h2⟩
theorem own_base {w : World} {base base' e n : Nat} {v : Value} {xs : List Value} (h : w.ownsRow base e 1 v n xs) (hb : base' ≤ base) : w.ownsRow base' e 1 v n xs := by
  refine ⟨h.1, ?_⟩
  rcases h.2 with hn | ⟨g, cap, cur, h1, h2, rest⟩
  · exact .inl hn
  · exact .inr ⟨g, cap, cur, h1, Nat.le_trans hb h2, rest⟩
theorem owns_form {w : World} {base e n : Nat} {v : Value} {xs : List Value} (h : w.ownsRow base e 1 v n xs) : ∃ a cap, v = .slice a n cap := by
  rcases h.2 with ⟨rfl, rfl⟩ | ⟨g, cap, _, rfl, _⟩
  · exact ⟨none, 0, rfl⟩
  · exact ⟨_, cap, rfl⟩
set_option maxHeartbeats 2000000 in
theorem grid_spec (n : Int) (w : World) : Calls Try.prog 7 #[.int .i64 n] w (TabAns n w) := by
  by_cases h0 : 1 ≤ n ∧ n ≤ 8
  · obtain ⟨s, rfl⟩ : ∃ s : Nat, n = s := ⟨n.toNat, by omega⟩
    obtain ⟨i0, hic, hz0, hz1, hz2⟩ := info_parts cxInfo
    obtain ⟨i1, hii, hy0, hy1, hy2⟩ := info_parts intInfo
    have hin : inB (s : Int) 1 8 = true := by simp [inB]; omega
    go_enter Try.func7, Try.ntmps7
    go_wp2_with fail
    refine (l1In_any _ _ _ _).mono ?_
    rintro e w' ⟨rfl, rfl⟩
    rw [hin]
    go_wp2_with fail
    go_loopw [5] (fun iv wr => ∃ i : Nat, i ≤ s ∧ iv = .int .i64 i ∧ GR w s i 0 wr) (fun iv _ => s - (intOf iv).toNat)
    case atStart =>
      refine ⟨0, by omega, rfl, ((Below.refl _ _).alloc (Nat.le_refl _) _).alloc (by simp) _, .slice none 0 0, .slice none 0 0, ?_, ?_, ?_, ?_⟩
      · exact ⟨by simp [grid], .inl ⟨rfl, by simp⟩⟩
      · exact ⟨by simp [grid], .inl ⟨rfl, by simp⟩⟩
      · show ((w.heap.push _).push _)[w.heap.size + 1]? = _
        rw [Array.getElem?_push, if_pos (by simp)]
      · show ((w.heap.push _).push _)[w.heap.size]? = _
        rw [Array.getElem?_push, if_neg (by simp), Array.getElem?_push, if_pos rfl]
    case round =>
      obtain ⟨i, hi, rfl, hgr⟩ := hrel
      have HG := Lib.hid hgr
      clear hgr
      by_cases hlt : (i : Int) < (s : Int)
      · go_wp2_with fail
        go_loopw [6] (fun kv wr => ∃ k : Nat, k ≤ s ∧ kv = .int .i64 k ∧ GR w s i k wr) (fun kv _ => s - (intOf kv).toNat)
        case atStart => exact ⟨0, by omega, rfl, HG.out⟩
        case round =>
          obtain ⟨k, hk, rfl, hgr⟩ := hrel
          clear HG
          have HG := Lib.hid hgr
          clear hgr
          by_cases hlk : (k : Int) < (s : Int)
          · obtain ⟨hb, v0, v1, o0, o1, hc4, hc2⟩ := HG.out
            clear HG
            have HO := Lib.hid (show _ ∧ _ ∧ _ from ⟨hb, o0, o1⟩)
            clear hb o0 o1
            have c0 : wr.cell? ⟨w.heap.size + 1, 0, none⟩ = some v0 := cell_of_row wr _ 0 _ _ _ hc4
            have c1 : wr.cell? ⟨w.heap.size + 1, 1, none⟩ = some v1 := cell_of_row wr _ 1 _ _ _ hc4
            have hsz : i * s + k < 64 := by
              have h1 : i * s ≤ 7 * s := Nat.mul_le_mul_right s (by omega)
              omega
            have hb4 : w.heap.size + 1 < wr.heap.size := (Array.getElem?_eq_some_iff.1 hc4).1
            have f0 : wr.frozen? ⟨w.heap.size + 1, 0, none⟩ = false := frozen_of_row wr _ 0 _ _ hc4
            have H4 := Lib.hid (show _ ∧ _ from ⟨hc4, hc2⟩)
            clear hc4 hc2
            go_wp2_with (at_builtin; refine wpList_append_own _ rfl _ _ 22 rfl (w.heap.size + 2) 33 i0 (.complex .f32 0 0) 1 8 Try.underlying22 hic hz0 hz1 hz2 rfl (by decide) _ _ _ rfl (HO.out.2.1.alloc _) ⟨wr.heap.size, 0, none⟩ 1 1 [_] rfl rfl (cell_one_new _ _ _) ?c2 ?c3 ?c4 ?c5 ?_)
            case c2 => intro x hx; rw [List.mem_singleton] at hx; subst hx; rfl
            case c3 => unfold maxLen; omega
            case c4 => omega
            case c5 => simp; omega
            intro v' w3 hown hgrow _
            obtain ⟨g3, cp3, rfl, hg3⟩ := owns_some hown (by omega)
            have hk3 : ∀ c, c < w.heap.size + 2 → c < wr.heap.size → w3.heap[c]? = wr.heap[c]? := fun c h1 h2 => (hgrow.block c (by simp; omega) (fun he => by have := (HO.out.2.1.lt c he.symm).1; omega)).trans (Below.heap_alloc _ _ _ h2)
            have hc43 : w3.heap[w.heap.size + 1]? = some (.cells #[v0, v1] 25 (0, 0)) := (hk3 _ (by omega) hb4).trans H4.out.1
            have hc23 : w3.heap[w.heap.size]? = some (.cells #[.slice none 0 0, .slice none 0 0] 25 (0, 0)) := (hk3 _ (by omega) (by omega)).trans H4.out.2
            have ho13 : w3.ownsRow (w.heap.size + 2) 3 1 v1 (i * s + k) (grid (gl s) s i k) := (HO.out.2.2.alloc _).kept hgrow (own_apart HO.out.2.2 HO.out.2.1 (by decide))
            have hbel3 : Below w.heap.size w w3 := (HO.out.1.alloc HO.out.1.size _).grown hgrow (by have := HO.out.1.size; simp; omega) (fun j hj => by have := (HO.out.2.1.lt j hj).1; omega)
            have c0 : w3.cell? ⟨w.heap.size + 1, 0, none⟩ = some v0 := cell_of_row w3 _ 0 _ _ _ hc43
            have c1 : w3.cell? ⟨w.heap.size + 1, 1, none⟩ = some v1 := cell_of_row w3 _ 1 _ _ _ hc43
            have f0 : w3.frozen? ⟨w.heap.size + 1, 0, none⟩ = false := frozen_of_row w3 _ 0 _ _ hc43
            have f1 : w3.frozen? ⟨w.heap.size + 1, 1, none⟩ = false := frozen_of_row w3 _ 1 _ _ hc43
            have H3 := Lib.hid (show _ ∧ _ ∧ _ ∧ _ ∧ _ from ⟨hown, ho13, hbel3, hc43, hc23⟩)
            have hb43 : w.heap.size + 1 < w3.heap.size := (Array.getElem?_eq_some_iff.1 hc43).1
            clear hown ho13 hbel3 hc43 hc23 hgrow hk3 HO H4
            go_wp2_with (at_builtin; refine wpList_append_own _ rfl _ _ 23 rfl (w.heap.size + 2) 3 i1 (.int .i64 0) 1 8 Try.underlying23 hii hy0 hy1 hy2 rfl (by decide) _ _ _ rfl ((own_setCell H3.out.2.1 (by omega)).alloc _) ⟨w3.heap.size, 0, none⟩ 1 1 [.int .i64 ((i : Int) * s + k)] rfl rfl ?d1 ?d2 ?d3 ?d4 ?d5 ?_)
            case d1 =>
              have := cell_one_new (w3.setCell ⟨w.heap.size + 1, 0, none⟩ (.slice (some ⟨g3, 0, none⟩) (i * s + k + 1) cp3)) (.int .i64 ((i : Int) * s + k)) 3
              simpa using this
            case d2 => intro x hx; rw [List.mem_singleton] at hx; subst hx; rfl
            case d3 => unfold maxLen; omega
            case d4 => omega
            case d5 => simp; omega
            intro v5 w5 hown5 hgrow5 _
            obtain ⟨g5, cp5, rfl, hg5⟩ := owns_some hown5 (by omega)
            have hk5 : ∀ c, c < w.heap.size + 2 → c < w3.heap.size → w5.heap[c]? = (w3.setCell ⟨w.heap.size + 1, 0, none⟩ (.slice (some ⟨g3, 0, none⟩) (i * s + k + 1) cp3)).heap[c]? := fun c h1 h2 =>
              (hgrow5.block c (by simp; omega) (fun he => by have := (H3.out.2.1.lt c he.symm).1; omega)).trans (Below.heap_alloc _ _ _ (by simpa using h2))
            have hc45 : w5.heap[w.heap.size + 1]? = some (.cells #[.slice (some ⟨g3, 0, none⟩) (i * s + k + 1) cp3, v1] 25 (0, 0)) := (hk5 _ (by omega) hb43).trans (heap_setCell_same _ _ _ _ _ _ H3.out.2.2.2.1)
            have hc25 : w5.heap[w.heap.size]? = some (.cells #[.slice none 0 0, .slice none 0 0] 25 (0, 0)) := (hk5 _ (by omega) (by omega)).trans ((heap_setCell_other _ _ _ _ (Nat.ne_of_lt (Nat.lt_succ_self _))).trans H3.out.2.2.2.2)
            have ho05 : w5.ownsRow (w.heap.size + 2) 33 1 (.slice (some ⟨g3, 0, none⟩) (i * s + k + 1) cp3) (i * s + k + 1) _ := ((own_setCell H3.out.1 (by omega)).alloc _).kept hgrow5 (own_apart H3.out.1 H3.out.2.1 (by decide))
            have hbel5 : Below w.heap.size w w5 := ((H3.out.2.2.1.setCell (Nat.le_succ _) _).alloc (by have := H3.out.2.2.1.size; simpa using this) _).grown hgrow5 (by have := H3.out.2.2.1.size; simp; omega) (fun j hj => by have := (H3.out.2.1.lt j hj).1; omega)
            have c15 : w5.cell? ⟨w.heap.size + 1, 1, none⟩ = some v1 := cell_of_row w5 _ 1 _ _ _ hc45
            have f15 : w5.frozen? ⟨w.heap.size + 1, 1, none⟩ = false := frozen_of_row w5 _ 1 _ _ hc45
            have HN := Lib.hid (show GR w s i (k + 1) (w5.setCell ⟨w.heap.size + 1, 1, none⟩ (.slice (some ⟨g5, 0, none⟩) (i * s + k + 1) cp5)) from
              ⟨hbel5.setCell (Nat.le_succ _) _, _, _, by rw [grid_snoc, List.map_append]; exact own_setCell ho05 (by omega), by rw [grid_snoc]; exact own_setCell hown5 (by omega), heap_setCell_same _ _ _ _ _ _ hc45, (heap_setCell_other _ _ _ _ (Nat.ne_of_lt (Nat.lt_succ_self _))).trans hc25⟩)
            clear hown5 ho05 hbel5 hc45 hc25 hgrow5 hk5 H3 c0 c1 f0 f1
            go_wp2_with fail
            go_roundw
            case rel => exact ⟨k + 1, by omega, by go_num, HN.out⟩
            case measure => simp [intOf]; omega
          · obtain rfl : k = s := by omega
            have HN := Lib.hid (show GR w k (i + 1) 0 wr from by
              have h := HG.out
              unfold GR at h ⊢
              rw [grid_row, grid_row] at h
              rw [Nat.succ_mul, Nat.add_zero]
              exact h)
            clear HG
            go_wp2_with fail
            go_roundw
            case rel => exact ⟨i + 1, by omega, by go_num, HN.out⟩
            case measure => simp [intOf]; omega
      · obtain rfl : i = s := by omega
        obtain ⟨hb, v0, v1, o0, o1, hc4, hc2⟩ := HG.out
        obtain ⟨a0, p0, rfl⟩ := owns_form o0
        obtain ⟨a1, p1, rfl⟩ := owns_form o1
        have c0 := cell_of_row wr _ 0 _ _ _ hc4
        have c1 := cell_of_row wr _ 1 _ _ _ hc4
        have e0 := cell_of_row wr _ 0 _ _ _ hc2
        have e1 := cell_of_row wr _ 1 _ _ _ hc2
        have f0 := frozen_of_row wr _ 0 _ _ hc2
        have f1 := frozen_of_row wr _ 1 _ _ hc2
        have HO := Lib.hid (show _ ∧ _ ∧ _ from ⟨hb, o0, o1⟩)
        simp only [List.getElem?_toArray, List.getElem?_cons_zero, List.getElem?_cons_succ] at c0 c1 e0 e1
        have r0 := heap_setCell_same _ _ 0 _ _ (Value.slice a0 (i * i + 0) p0) hc2
        have r1 := heap_setCell_same _ _ 1 _ _ (Value.slice a1 (i * i + 0) p1) r0
        have k0 : (wr.setCell ⟨w.heap.size, 0, none⟩ (Value.slice a0 (i * i) p0)).cell? ⟨w.heap.size, 0, none⟩ = some (Value.slice a0 (i * i) p0) := cell_of_row _ _ 0 _ _ _ r0
        have k1 : ((wr.setCell ⟨w.heap.size, 0, none⟩ (Value.slice a0 (i * i) p0)).setCell ⟨w.heap.size, 1, none⟩ (Value.slice a1 (i * i) p1)).cell? ⟨w.heap.size, 1, none⟩ = some (Value.slice a1 (i * i) p1) := cell_of_row _ _ 1 _ _ _ r1
        clear hb o0 o1 hc4 hc2 HG r0 r1
        go_wp2_with fail
        refine bodyPost_ret (by simp [results, Try.results7, go_sem, k0, k1]; try rfl) rfl ?_
        refine .inl ⟨h0.1, h0.2, _, _, rfl, ?_, ?_, ?_⟩
        · exact own_base (own_setCell (own_setCell HO.out.2.1 (by omega)) (by omega)) (by omega)
        · exact own_base (own_setCell (own_setCell HO.out.2.2 (by omega)) (by omega)) (by omega)
        · exact (HO.out.1.setCell (Nat.le_refl _) _).setCell (Nat.le_refl _) _
  · have hin : inB n 1 8 = false := by simp [inB]; omega
    go_enter Try.func7, Try.ntmps7
    go_wp2_with fail
    refine (l1In_any _ _ _ _).mono ?_
    rintro e w' ⟨rfl, rfl⟩
    rw [hin]
    go_wp2_with fail
    go_returns
    exact .inr ⟨h0, rfl, (Below.refl _ _).alloc (Nat.le_refl _) _⟩
set_option maxHeartbeats 2000000 in
theorem grid_impl (n : Int) (w : World) : Calls Try.prog 8 #[.int .i64 n] w (TabAns n w) := by
  by_cases h0 : 1 ≤ n ∧ n ≤ 8
  · obtain ⟨s, rfl⟩ : ∃ s : Nat, n = s := ⟨n.toNat, by omega⟩
    obtain ⟨i0, hic, hz0, hz1, hz2⟩ := info_parts cxInfo
    obtain ⟨i1, hii, hy0, hy1, hy2⟩ := info_parts intInfo
    have hn0 : ¬ (s : Int) < 1 := by omega
    have hn1 : ¬ (8 : Int) < (s : Int) := by omega
    go_enter Try.func8, Try.ntmps8
    go_wp2_with fail
    go_loopw [16] (fun iv wr => ∃ i : Nat, i ≤ s ∧ iv = .int .i64 i ∧ GR w s i 0 wr) (fun iv _ => s - (intOf iv).toNat)
    case atStart =>
      refine ⟨0, by omega, rfl, ((Below.refl _ _).alloc (Nat.le_refl _) _).alloc (by simp) _, .slice none 0 0, .slice none 0 0, ?_, ?_, ?_, ?_⟩
      · exact ⟨by simp [grid], .inl ⟨rfl, by simp⟩⟩
      · exact ⟨by simp [grid], .inl ⟨rfl, by simp⟩⟩
      · show ((w.heap.push _).push _)[w.heap.size + 1]? = _
        rw [Array.getElem?_push, if_pos (by simp)]
      · show ((w.heap.push _).push _)[w.heap.size]? = _
        rw [Array.getElem?_push, if_neg (by simp), Array.getElem?_push, if_pos rfl]
    case round =>
      obtain ⟨i, hi, rfl, hgr⟩ := hrel
      have HG := Lib.hid hgr
      clear hgr
      by_cases hlt : (i : Int) < (s : Int)
      · go_wp2_with fail
        go_loopw [20] (fun kv wr => ∃ k : Nat, k ≤ s ∧ kv = .int .i64 k ∧ GR w s i k wr) (fun kv _ => s - (intOf kv).toNat)
        case atStart => exact ⟨0, by omega, rfl, HG.out⟩
        case round =>
          obtain ⟨k, hk, rfl, hgr⟩ := hrel
          clear HG
          have HG := Lib.hid hgr
          clear hgr
          by_cases hlk : (k : Int) < (s : Int)
          · obtain ⟨hb, v0, v1, o0, o1, hc4, hc2⟩ := HG.out
            clear HG
            have HO := Lib.hid (show _ ∧ _ ∧ _ from ⟨hb, o0, o1⟩)
            clear hb o0 o1
            have c0 : wr.cell? ⟨w.heap.size + 1, 0, none⟩ = some v0 := cell_of_row wr _ 0 _ _ _ hc4
            have c1 : wr.cell? ⟨w.heap.size + 1, 1, none⟩ = some v1 := cell_of_row wr _ 1 _ _ _ hc4
            have hsz : i * s + k < 64 := by
              have h1 : i * s ≤ 7 * s := Nat.mul_le_mul_right s (by omega)
              omega
            have hb4 : w.heap.size + 1 < wr.heap.size := (Array.getElem?_eq_some_iff.1 hc4).1
            have f0 : wr.frozen? ⟨w.heap.size + 1, 0, none⟩ = false := frozen_of_row wr _ 0 _ _ hc4
            have H4 := Lib.hid (show _ ∧ _ from ⟨hc4, hc2⟩)
            clear hc4 hc2
            go_wp2_with (at_builtin; refine wpList_append_own _ rfl _ _ 22 rfl (w.heap.size + 2) 33 i0 (.complex .f32 0 0) 1 8 Try.underlying22 hic hz0 hz1 hz2 rfl (by decide) _ _ _ rfl (HO.out.2.1.alloc _) ⟨wr.heap.size, 0, none⟩ 1 1 [_] rfl rfl (cell_one_new _ _ _) ?c2 ?c3 ?c4 ?c5 ?_)
            case c2 => intro x hx; rw [List.mem_singleton] at hx; subst hx; rfl
            case c3 => unfold maxLen; omega
            case c4 => omega
            case c5 => simp; omega
            intro v' w3 hown hgrow _
            obtain ⟨g3, cp3, rfl, hg3⟩ := owns_some hown (by omega)
            have hk3 : ∀ c, c < w.heap.size + 2 → c < wr.heap.size → w3.heap[c]? = wr.heap[c]? := fun c h1 h2 => (hgrow.block c (by simp; omega) (fun he => by have := (HO.out.2.1.lt c he.symm).1; omega)).trans (Below.heap_alloc _ _ _ h2)
            have hc43 : w3.heap[w.heap.size + 1]? = some (.cells #[v0, v1] 25 (0, 0)) := (hk3 _ (by omega) hb4).trans H4.out.1
            have hc23 : w3.heap[w.heap.size]? = some (.cells #[.slice none 0 0, .slice none 0 0] 25 (0, 0)) := (hk3 _ (by omega) (by omega)).trans H4.out.2
            have ho13 : w3.ownsRow (w.heap.size + 2) 3 1 v1 (i * s + k) (grid (gl s) s i k) := (HO.out.2.2.alloc _).kept hgrow (own_apart HO.out.2.2 HO.out.2.1 (by decide))
            have hbel3 : Below w.heap.size w w3 := (HO.out.1.alloc HO.out.1.size _).grown hgrow (by have := HO.out.1.size; simp; omega) (fun j hj => by have := (HO.out.2.1.lt j hj).1; omega)
            have c0 : w3.cell? ⟨w.heap.size + 1, 0, none⟩ = some v0 := cell_of_row w3 _ 0 _ _ _ hc43
            have c1 : w3.cell? ⟨w.heap.size + 1, 1, none⟩ = some v1 := cell_of_row w3 _ 1 _ _ _ hc43
            have f0 : w3.frozen? ⟨w.heap.size + 1, 0, none⟩ = false := frozen_of_row w3 _ 0 _ _ hc43
            have f1 : w3.frozen? ⟨w.heap.size + 1, 1, none⟩ = false := frozen_of_row w3 _ 1 _ _ hc43
            have H3 := Lib.hid (show _ ∧ _ ∧ _ ∧ _ ∧ _ from ⟨hown, ho13, hbel3, hc43, hc23⟩)
            have hb43 : w.heap.size + 1 < w3.heap.size := (Array.getElem?_eq_some_iff.1 hc43).1
            clear hown ho13 hbel3 hc43 hc23 hgrow hk3 HO H4
            go_wp2_with (at_builtin; refine wpList_append_own _ rfl _ _ 23 rfl (w.heap.size + 2) 3 i1 (.int .i64 0) 1 8 Try.underlying23 hii hy0 hy1 hy2 rfl (by decide) _ _ _ rfl ((own_setCell H3.out.2.1 (by omega)).alloc _) ⟨w3.heap.size, 0, none⟩ 1 1 [.int .i64 ((i : Int) * s + k)] rfl rfl ?d1 ?d2 ?d3 ?d4 ?d5 ?_)
            case d1 =>
              have := cell_one_new (w3.setCell ⟨w.heap.size + 1, 0, none⟩ (.slice (some ⟨g3, 0, none⟩) (i * s + k + 1) cp3)) (.int .i64 ((i : Int) * s + k)) 3
              simpa using this
            case d2 => intro x hx; rw [List.mem_singleton] at hx; subst hx; rfl
            case d3 => unfold maxLen; omega
            case d4 => omega
            case d5 => simp; omega
            intro v5 w5 hown5 hgrow5 _
            obtain ⟨g5, cp5, rfl, hg5⟩ := owns_some hown5 (by omega)
            have hk5 : ∀ c, c < w.heap.size + 2 → c < w3.heap.size → w5.heap[c]? = (w3.setCell ⟨w.heap.size + 1, 0, none⟩ (.slice (some ⟨g3, 0, none⟩) (i * s + k + 1) cp3)).heap[c]? := fun c h1 h2 =>
              (hgrow5.block c (by simp; omega) (fun he => by have := (H3.out.2.1.lt c he.symm).1; omega)).trans (Below.heap_alloc _ _ _ (by simpa using h2))
            have hc45 : w5.heap[w.heap.size + 1]? = some (.cells #[.slice (some ⟨g3, 0, none⟩) (i * s + k + 1) cp3, v1] 25 (0, 0)) := (hk5 _ (by omega) hb43).trans (heap_setCell_same _ _ _ _ _ _ H3.out.2.2.2.1)
            have hc25 : w5.heap[w.heap.size]? = some (.cells #[.slice none 0 0, .slice none 0 0] 25 (0, 0)) := (hk5 _ (by omega) (by omega)).trans ((heap_setCell_other _ _ _ _ (Nat.ne_of_lt (Nat.lt_succ_self _))).trans H3.out.2.2.2.2)
            have ho05 : w5.ownsRow (w.heap.size + 2) 33 1 (.slice (some ⟨g3, 0, none⟩) (i * s + k + 1) cp3) (i * s + k + 1) _ := ((own_setCell H3.out.1 (by omega)).alloc _).kept hgrow5 (own_apart H3.out.1 H3.out.2.1 (by decide))
            have hbel5 : Below w.heap.size w w5 := ((H3.out.2.2.1.setCell (Nat.le_succ _) _).alloc (by have := H3.out.2.2.1.size; simpa using this) _).grown hgrow5 (by have := H3.out.2.2.1.size; simp; omega) (fun j hj => by have := (H3.out.2.1.lt j hj).1; omega)
            have c15 : w5.cell? ⟨w.heap.size + 1, 1, none⟩ = some v1 := cell_of_row w5 _ 1 _ _ _ hc45
            have f15 : w5.frozen? ⟨w.heap.size + 1, 1, none⟩ = false := frozen_of_row w5 _ 1 _ _ hc45
            have HN := Lib.hid (show GR w s i (k + 1) (w5.setCell ⟨w.heap.size + 1, 1, none⟩ (.slice (some ⟨g5, 0, none⟩) (i * s + k + 1) cp5)) from
              ⟨hbel5.setCell (Nat.le_succ _) _, _, _, by rw [grid_snoc, List.map_append]; exact own_setCell ho05 (by omega), by rw [grid_snoc]; exact own_setCell hown5 (by omega), heap_setCell_same _ _ _ _ _ _ hc45, (heap_setCell_other _ _ _ _ (Nat.ne_of_lt (Nat.lt_succ_self _))).trans hc25⟩)
            clear hown5 ho05 hbel5 hc45 hc25 hgrow5 hk5 H3 c0 c1 f0 f1
            go_wp2_with fail
            go_roundw
            case rel => exact ⟨k + 1, by omega, by go_num, HN.out⟩
            case measure => simp [intOf]; omega
          · obtain rfl : k = s := by omega
            have HN := Lib.hid (show GR w k (i + 1) 0 wr from by
              have h := HG.out
              unfold GR at h ⊢
              rw [grid_row, grid_row] at h
              rw [Nat.succ_mul, Nat.add_zero]
              exact h)
            clear HG
            go_wp2_with fail
            go_roundw
            case rel => exact ⟨i + 1, by omega, by go_num, HN.out⟩
            case measure => simp [intOf]; omega
      · obtain rfl : i = s := by omega
        obtain ⟨hb, v0, v1, o0, o1, hc4, hc2⟩ := HG.out
        obtain ⟨a0, p0, rfl⟩ := owns_form o0
        obtain ⟨a1, p1, rfl⟩ := owns_form o1
        have c0 := cell_of_row wr _ 0 _ _ _ hc4
        have c1 := cell_of_row wr _ 1 _ _ _ hc4
        have e0 := cell_of_row wr _ 0 _ _ _ hc2
        have e1 := cell_of_row wr _ 1 _ _ _ hc2
        have f0 := frozen_of_row wr _ 0 _ _ hc2
        have f1 := frozen_of_row wr _ 1 _ _ hc2
        have HO := Lib.hid (show _ ∧ _ ∧ _ from ⟨hb, o0, o1⟩)
        simp only [List.getElem?_toArray, List.getElem?_cons_zero, List.getElem?_cons_succ] at c0 c1 e0 e1
        have r0 := heap_setCell_same _ _ 0 _ _ (Value.slice a0 (i * i + 0) p0) hc2
        have r1 := heap_setCell_same _ _ 1 _ _ (Value.slice a1 (i * i + 0) p1) r0
        have k0 : (wr.setCell ⟨w.heap.size, 0, none⟩ (Value.slice a0 (i * i) p0)).cell? ⟨w.heap.size, 0, none⟩ = some (Value.slice a0 (i * i) p0) := cell_of_row _ _ 0 _ _ _ r0
        have k1 : ((wr.setCell ⟨w.heap.size, 0, none⟩ (Value.slice a0 (i * i) p0)).setCell ⟨w.heap.size, 1, none⟩ (Value.slice a1 (i * i) p1)).cell? ⟨w.heap.size, 1, none⟩ = some (Value.slice a1 (i * i) p1) := cell_of_row _ _ 1 _ _ _ r1
        clear hb o0 o1 hc4 hc2 HG r0 r1
        go_wp2_with fail
        refine bodyPost_ret (by simp [results, Try.results8, go_sem, k0, k1]; try rfl) rfl ?_
        refine .inl ⟨h0.1, h0.2, _, _, rfl, ?_, ?_, ?_⟩
        · exact own_base (own_setCell (own_setCell HO.out.2.1 (by omega)) (by omega)) (by omega)
        · exact own_base (own_setCell (own_setCell HO.out.2.2 (by omega)) (by omega)) (by omega)
        · exact (HO.out.1.setCell (Nat.le_refl _) _).setCell (Nat.le_refl _) _
  · by_cases h1 : n < 1
    · go_enter Try.func8, Try.ntmps8
      go_wp2_with fail
      go_returns
      exact .inr ⟨h0, rfl, (Below.refl _ _).alloc (Nat.le_refl _) _⟩
    · have h2 : (8 : Int) < n := by omega
      go_enter Try.func8, Try.ntmps8
      go_wp2_with fail
      go_returns
      exact .inr ⟨h0, rfl, (Below.refl _ _).alloc (Nat.le_refl _) _⟩
end Go.Proofs.Ytolflcjaglgphaa
