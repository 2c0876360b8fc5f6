/-
  slices.Delete of one element, of the call's own rows.
-/
import Derived.Test.YtolflcjaglgphaaDelR
import Derived.Test.YtolflcjaglgphaaCopy
namespace Go.Proofs.Ytolflcjaglgphaa
open Go.RowKit

set_option maxHeartbeats 2000000 in
theorem delC (base g n cap i j : Nat) (xs : List (Nat × Nat)) (w : World) (hown : w.ownsRow base 33 1 (.slice (some ⟨g, 0, none⟩) n cap) n (xs.map cx)) (hi : i < n) (hj : j = i + 1) (hn : n ≤ 64) :
    Calls Try.prog 48 #[.slice (some ⟨g, 0, none⟩) n cap, .int .i64 i, .int .i64 j] w fun e w' => e = .returned (.slice (some ⟨g, 0, none⟩) (n - 1) cap) ∧ w'.ownsRow base 33 1 (.slice (some ⟨g, 0, none⟩) (n - 1) cap) (n - 1) ((xs.map cx).eraseIdx i) ∧ w.grownBy w' (some g) := by
  obtain ⟨i0, hic, hz0, hz1, hz2⟩ := info_parts cxInfo
  have hl : (xs.map cx).length = n := by simpa using hown.1
  have hone : ∀ u ∈ (xs.map cx).drop (i + 1), u.oneCell' = true := fun u hu => by
    obtain ⟨q, _, rfl⟩ := List.mem_map.1 (List.mem_of_mem_drop hu); rfl
  generalize xs.map cx = vs at *
  have hnc : n ≤ cap ∧ cap ≤ 9223372036854775807 := by
    rcases hown.2 with ⟨h, _⟩ | ⟨g', c, cur, h, _, _, h2, h3, _⟩
    · cases h
    · cases h; exact ⟨h2, Nat.le_trans h3 (by decide)⟩
  obtain ⟨news, hnews⟩ : ∃ news, news = vs.drop (i + 1) := ⟨_, rfl⟩
  have hlen : news.length = n - j := by rw [hnews]; simp; omega
  have hct : ∀ t, t < n → w.drew.cell? ⟨g, t, none⟩ = vs[t]? ∧ w.drew.frozen? ⟨g, t, none⟩ = false := fun t ht => ⟨hown.cellAt t (by omega), hown.frozenAt t⟩
  obtain ⟨A, hA, hsrc⟩ : ∃ A : Addr, (if cap = j then some (⟨g, 0, none⟩ : Addr) else some ⟨g, j, none⟩) = some A ∧ Hid (∀ t u, news[t]? = some u → w.drew.cell? (A.add t) = some u) := by
    by_cases h : cap = j
    · refine ⟨⟨g, 0, none⟩, by simp [h], Lib.hid fun t u hu => ?_⟩
      have h0 : news.length = 0 := by omega
      rw [List.length_eq_zero_iff.1 h0] at hu
      simp at hu
    · refine ⟨⟨g, j, none⟩, by simp [h], Lib.hid fun t u hu => ?_⟩
      have ht : t < news.length := (List.getElem?_eq_some_iff.1 hu).1
      rw [hnews, List.getElem?_drop] at hu
      rw [show (⟨g, j, none⟩ : Addr).add t = ⟨g, j + t, none⟩ by unfold Addr.add; split <;> simp_all, (hct (j + t) (by omega)).1, hj]
      exact hu
  have s1 := Lib.hid (show news.length = (n - j) * 1 by rw [Nat.mul_one]; exact hlen)
  have s2 := Lib.hid (show ∀ u ∈ news, u.oneCell' = true by rw [hnews]; exact hone)
  have s3 := Lib.hid (show ∀ t, t < news.length → (w.drew.cell? ⟨g, 0 + i * 1 + t, none⟩).isSome = true ∧ w.drew.frozen? ⟨g, 0 + i * 1 + t, none⟩ = false from fun t ht => by
    rw [Nat.mul_one, Nat.zero_add]
    have := hct (i + t) (by omega)
    exact ⟨by rw [this.1, List.getElem?_eq_getElem (by omega)]; rfl, this.2⟩)
  have hdel := own_del (z := (.complex .f32 0 0)) (show w.drew.ownsRow base 33 1 (.slice (some ⟨g, 0, none⟩) n cap) n vs from hown) hi
  have hgap := own_setCells (vs.drop (i + 1)) i vs w.drew hown (by simp; omega)
  rw [← hnews] at hdel hgap
  obtain ⟨W1, hW1⟩ : ∃ W1, W1 = w.drew.setCells g (0 + i * 1) news := ⟨_, rfl⟩
  have hW1' : W1 = w.drew.setCells g i news := by rw [hW1, Nat.mul_one, Nat.zero_add]
  rw [← hW1'] at hdel hgap
  have hv : ∀ w, (zeroValue 33).run Try.prog w = .ok (.complex .f32 0 0) w := fun w => by simp [zeroValue, typeInfo, hic, hz0]
  have hcl : ∀ ty, (Builtin.clear_ #[22] ty #[.slice (some ⟨g, i + (n - j), none⟩) (n - (i + (n - j))) (cap - (i + (n - j)))]).run Try.prog W1 = .ok (.tuple #[]) (W1.setCells g (n - 1) [(.complex .f32 0 0)]) := fun ty => by
    have e1 : i + (n - j) = n - 1 := by omega
    have e2 : n - (n - 1) = 1 := by omega
    rw [e1, e2]
    refine Lib.run_clear_slice W1 _ _ ty _ Try.underlying22 hv rfl rfl g (n - 1) 1 _ (by omega) (fun t ht => ?_) (fun t ht => ?_)
    · obtain rfl : t = 0 := by omega
      rw [hgap.1.cellAt (n - 1 + 0) (by omega), List.getElem?_eq_getElem (by have := hgap.1.1; omega)]; rfl
    · exact hgap.1.frozenAt _
  have HD := Lib.hid hdel
  have hW := Lib.hid hW1
  have hic' : i ≤ cap := by omega
  have hjc : j ≤ cap := by omega
  have hij : i ≤ j := by omega
  have hjn : j ≤ n := by omega
  have hne : ¬ (i : Int) = (j : Int) := by omega
  have HJ := Lib.hid hj
  clear hW1 hW1' hgap hdel hown hct hnews hlen hone hl hj
  go_enter Try.func48, Try.ntmps48
  go_wp2_with fail
  go_region_law (refine step_append_room rfl (.tmp 22) (.tmp 25) 22 rfl 33 i0 1 Try.underlying22 hic hz1 g 0 i cap (by simp [Act.eval, Act.put]) A (n - j) (cap - j) news (by simp [Act.eval, Act.put]) s1.out hsrc.out s2.out (by omega) s3.out ?_; rw [← hW.out])
  go_wp2_with fail
  go_ret
  have e1 : i + (n - j) = n - 1 := by have := HJ.out; omega
  refine ⟨by rw [e1]; rfl, HD.out.1, ?_⟩
  have hg := HD.out.2
  exact ⟨hg.os, hg.tape, hg.output, hg.size, hg.block⟩

set_option maxHeartbeats 2000000 in
theorem delI (base g n cap i j : Nat) (xs : List Int) (w : World) (hown : w.ownsRow base 3 1 (.slice (some ⟨g, 0, none⟩) n cap) n (ints xs)) (hi : i < n) (hj : j = i + 1) (hn : n ≤ 64) :
    Calls Try.prog 49 #[.slice (some ⟨g, 0, none⟩) n cap, .int .i64 i, .int .i64 j] w fun e w' => e = .returned (.slice (some ⟨g, 0, none⟩) (n - 1) cap) ∧ w'.ownsRow base 3 1 (.slice (some ⟨g, 0, none⟩) (n - 1) cap) (n - 1) ((ints xs).eraseIdx i) ∧ w.grownBy w' (some g) := by
  obtain ⟨i0, hic, hz0, hz1, hz2⟩ := info_parts intInfo
  have hl : (ints xs).length = n := by simpa using hown.1
  have hone : ∀ u ∈ (ints xs).drop (i + 1), u.oneCell' = true := fun u hu => by
    obtain ⟨q, _, rfl⟩ := List.mem_map.1 (List.mem_of_mem_drop hu); rfl
  generalize ints xs = vs at *
  have hnc : n ≤ cap ∧ cap ≤ 9223372036854775807 := by
    rcases hown.2 with ⟨h, _⟩ | ⟨g', c, cur, h, _, _, h2, h3, _⟩
    · cases h
    · cases h; exact ⟨h2, Nat.le_trans h3 (by decide)⟩
  obtain ⟨news, hnews⟩ : ∃ news, news = vs.drop (i + 1) := ⟨_, rfl⟩
  have hlen : news.length = n - j := by rw [hnews]; simp; omega
  have hct : ∀ t, t < n → w.drew.cell? ⟨g, t, none⟩ = vs[t]? ∧ w.drew.frozen? ⟨g, t, none⟩ = false := fun t ht => ⟨hown.cellAt t (by omega), hown.frozenAt t⟩
  obtain ⟨A, hA, hsrc⟩ : ∃ A : Addr, (if cap = j then some (⟨g, 0, none⟩ : Addr) else some ⟨g, j, none⟩) = some A ∧ Hid (∀ t u, news[t]? = some u → w.drew.cell? (A.add t) = some u) := by
    by_cases h : cap = j
    · refine ⟨⟨g, 0, none⟩, by simp [h], Lib.hid fun t u hu => ?_⟩
      have h0 : news.length = 0 := by omega
      rw [List.length_eq_zero_iff.1 h0] at hu
      simp at hu
    · refine ⟨⟨g, j, none⟩, by simp [h], Lib.hid fun t u hu => ?_⟩
      have ht : t < news.length := (List.getElem?_eq_some_iff.1 hu).1
      rw [hnews, List.getElem?_drop] at hu
      rw [show (⟨g, j, none⟩ : Addr).add t = ⟨g, j + t, none⟩ by unfold Addr.add; split <;> simp_all, (hct (j + t) (by omega)).1, hj]
      exact hu
  have s1 := Lib.hid (show news.length = (n - j) * 1 by rw [Nat.mul_one]; exact hlen)
  have s2 := Lib.hid (show ∀ u ∈ news, u.oneCell' = true by rw [hnews]; exact hone)
  have s3 := Lib.hid (show ∀ t, t < news.length → (w.drew.cell? ⟨g, 0 + i * 1 + t, none⟩).isSome = true ∧ w.drew.frozen? ⟨g, 0 + i * 1 + t, none⟩ = false from fun t ht => by
    rw [Nat.mul_one, Nat.zero_add]
    have := hct (i + t) (by omega)
    exact ⟨by rw [this.1, List.getElem?_eq_getElem (by omega)]; rfl, this.2⟩)
  have hdel := own_del (z := (.int .i64 0)) (show w.drew.ownsRow base 3 1 (.slice (some ⟨g, 0, none⟩) n cap) n vs from hown) hi
  have hgap := own_setCells (vs.drop (i + 1)) i vs w.drew hown (by simp; omega)
  rw [← hnews] at hdel hgap
  obtain ⟨W1, hW1⟩ : ∃ W1, W1 = w.drew.setCells g (0 + i * 1) news := ⟨_, rfl⟩
  have hW1' : W1 = w.drew.setCells g i news := by rw [hW1, Nat.mul_one, Nat.zero_add]
  rw [← hW1'] at hdel hgap
  have hv : ∀ w, (zeroValue 3).run Try.prog w = .ok (.int .i64 0) w := fun w => by simp [zeroValue, typeInfo, hic, hz0]
  have hcl : ∀ ty, (Builtin.clear_ #[23] ty #[.slice (some ⟨g, i + (n - j), none⟩) (n - (i + (n - j))) (cap - (i + (n - j)))]).run Try.prog W1 = .ok (.tuple #[]) (W1.setCells g (n - 1) [(.int .i64 0)]) := fun ty => by
    have e1 : i + (n - j) = n - 1 := by omega
    have e2 : n - (n - 1) = 1 := by omega
    rw [e1, e2]
    refine Lib.run_clear_slice W1 _ _ ty _ Try.underlying23 hv rfl rfl g (n - 1) 1 _ (by omega) (fun t ht => ?_) (fun t ht => ?_)
    · obtain rfl : t = 0 := by omega
      rw [hgap.1.cellAt (n - 1 + 0) (by omega), List.getElem?_eq_getElem (by have := hgap.1.1; omega)]; rfl
    · exact hgap.1.frozenAt _
  have HD := Lib.hid hdel
  have hW := Lib.hid hW1
  have hic' : i ≤ cap := by omega
  have hjc : j ≤ cap := by omega
  have hij : i ≤ j := by omega
  have hjn : j ≤ n := by omega
  have hne : ¬ (i : Int) = (j : Int) := by omega
  have HJ := Lib.hid hj
  clear hW1 hW1' hgap hdel hown hct hnews hlen hone hl hj
  go_enter Try.func49, Try.ntmps49
  go_wp2_with fail
  go_region_law (refine step_append_room rfl (.tmp 22) (.tmp 25) 23 rfl 3 i0 1 Try.underlying23 hic hz1 g 0 i cap (by simp [Act.eval, Act.put]) A (n - j) (cap - j) news (by simp [Act.eval, Act.put]) s1.out hsrc.out s2.out (by omega) s3.out ?_; rw [← hW.out])
  go_wp2_with fail
  go_ret
  have e1 : i + (n - j) = n - 1 := by have := HJ.out; omega
  refine ⟨by rw [e1]; rfl, HD.out.1, ?_⟩
  have hg := HD.out.2
  exact ⟨hg.os, hg.tape, hg.output, hg.size, hg.block⟩
end Go.Proofs.Ytolflcjaglgphaa
