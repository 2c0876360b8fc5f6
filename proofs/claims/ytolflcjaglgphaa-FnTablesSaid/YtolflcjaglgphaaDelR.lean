/-
  One element deleted from a row of the call's own: the append that closes the gap, the last cell cleared. No program in sight.
-/
import Derived.Test.YtolflcjaglgphaaRow
import Derived.Test.YtolflcjaglgphaaSl
import Derived.Test.YtolflcjaglgphaaKp
import Derived.Lib.SliceRun
import Derived.Deep.RegionLaw
namespace Go.Proofs.Ytolflcjaglgphaa
open Go Go.RowKit
theorem grown_trans {w w1 w2 : World} {r : Option Nat} (h : w.grownBy w1 r) (g : w1.grownBy w2 r) : w.grownBy w2 r :=
  ⟨g.os.trans h.os, g.tape.trans h.tape, g.output.trans h.output, Nat.le_trans h.size g.size, fun k hk hne => (g.block k (Nat.lt_of_lt_of_le hk h.size) hne).trans (h.block k hk hne)⟩
theorem own_setCells {base e g n cap : Nat} : ∀ (news : List Value) (i : Nat) (xs : List Value) (w : World), w.ownsRow base e 1 (.slice (some ⟨g, 0, none⟩) n cap) n xs → i + news.length ≤ n →
    (w.setCells g i news).ownsRow base e 1 (.slice (some ⟨g, 0, none⟩) n cap) n (xs.take i ++ news ++ xs.drop (i + news.length)) ∧ w.grownBy (w.setCells g i news) (some g)
  | [], i, xs, w, h, _ => by
    refine ⟨?_, rfl, rfl, rfl, Nat.le_refl _, fun _ _ _ => rfl⟩
    rw [List.append_nil, List.length_nil, Nat.add_zero, List.take_append_drop]
    exact h
  | v :: news, i, xs, w, h, hi => by
    have hl : xs.length = n := by simpa using h.1
    have hs := h.stored i v
    have hin : i < xs.length := by simp only [List.length_cons] at hi; omega
    have ih := own_setCells news (i + 1) (xs.set i v) (w.setCell ⟨g, i, none⟩ v) hs.1 (by simp only [List.length_cons] at hi; omega)
    have e1 : (xs.set i v).take (i + 1) = xs.take i ++ [v] := by
      rw [List.take_succ_eq_append_getElem (by simpa using hin), List.take_set, List.set_eq_of_length_le (by rw [List.length_take]; exact Nat.min_le_left _ _)]
      simp
    have e2 : (xs.set i v).drop (i + 1 + news.length) = xs.drop (i + (v :: news).length) := by
      rw [List.drop_set, if_pos (by omega)]
      simp only [List.length_cons]
      congr 1; omega
    rw [e1, e2] at ih
    refine ⟨?_, grown_trans hs.2 ih.2⟩
    have := ih.1
    rw [List.append_assoc, List.append_assoc] at this
    rw [List.append_assoc]
    exact this
/-- The row once the gap is closed, before the last cell is cleared; and once it is cleared. -/
theorem gap_list {xs : List Value} {i n : Nat} (hl : xs.length = n) (hi : i < n) : (xs.take i ++ xs.drop (i + 1) ++ xs.drop (i + (xs.drop (i + 1)).length)).take (n - 1) = xs.eraseIdx i := by
  rw [List.eraseIdx_eq_take_drop_succ, List.take_append_of_le_length (by simp; omega), List.take_of_length_le (by simp; omega)]
theorem own_cut {w : World} {base e g n cap m : Nat} {xs : List Value} (h : w.ownsRow base e 1 (.slice (some ⟨g, 0, none⟩) n cap) n xs) (hm : m ≤ n) : w.ownsRow base e 1 (.slice (some ⟨g, 0, none⟩) m cap) m (xs.take m) := by
  have hl : xs.length = n := by simpa using h.1
  refine ⟨by rw [List.length_take]; omega, ?_⟩
  rcases h.2 with ⟨h1, _⟩ | ⟨g', cap', cur, h1, h2, h3, h4, h5, h6, h7⟩
  · cases h1
  · cases h1
    refine .inr ⟨g, cap, cur, rfl, h2, h3, by omega, h5, h6, ?_⟩
    rw [← h7, List.take_take]
    congr 1; omega
/-- What the last cell's clearing leaves. -/
theorem own_del {w : World} {base e g n cap i : Nat} {xs : List Value} {z : Value} (h : w.ownsRow base e 1 (.slice (some ⟨g, 0, none⟩) n cap) n xs) (hi : i < n) :
    ((w.setCells g i (xs.drop (i + 1))).setCells g (n - 1) [z]).ownsRow base e 1 (.slice (some ⟨g, 0, none⟩) (n - 1) cap) (n - 1) (xs.eraseIdx i) ∧ w.grownBy ((w.setCells g i (xs.drop (i + 1))).setCells g (n - 1) [z]) (some g) := by
  have hl : xs.length = n := by simpa using h.1
  have h1 := own_setCells (xs.drop (i + 1)) i xs w h (by simp; omega)
  have h2 := own_setCells [z] (n - 1) _ _ h1.1 (by simp; omega)
  have h3 := own_cut h2.1 (Nat.sub_le n 1)
  refine ⟨?_, grown_trans h1.2 h2.2⟩
  rw [List.append_assoc, List.take_append_of_le_length (by simp; omega), List.take_take, Nat.min_self, gap_list hl hi] at h3
  exact h3
end Go.Proofs.Ytolflcjaglgphaa
