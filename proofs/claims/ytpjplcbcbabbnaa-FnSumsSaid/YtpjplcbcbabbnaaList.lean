/-
  MakeList: fewer than 20 small whole numbers, in a block of their own.
-/
import Derived.Test.YtpjplcbcbabbnaaFresh
import Derived.Test.YtpjplcbcbabbnaaIntS
import Derived.Test.YtpjplcbcbabbnaaSummedL
namespace Go.Proofs.Ytpjplcbcbabbnaa
open Go.RowKit

theorem grown_of_kp {c : Nat} {w w' : World} (h : Kp c w w') : w.grownBy w' (some c) := ⟨h.os, h.tape, h.output, h.size, fun k hk hc => h.block k hk (fun e => hc (by rw [e]))⟩
/-- The list so far. -/
def IntRel (w : World) (c n : Nat) (v : Value) (wr : World) : Prop :=
  ∃ (zs : List Int) (g cap : Nat), zs.length = n ∧ (∀ z ∈ zs, -1000 ≤ z ∧ z ≤ 1000) ∧ v = .slice (some ⟨g, 0, none⟩) n cap ∧ w.heap.size ≤ g ∧ wr.ownsRow w.heap.size 23 1 v n ((zs.map fi).map fl) ∧ CurAt wr c ∧ Kp c w wr
def ListAns (w : World) (e : Ending) (w' : World) : Prop :=
  ∃ (zs : List Int) (g n cap : Nat), zs.length = n ∧ n ≤ 20 ∧ (∀ z ∈ zs, -1000 ≤ z ∧ z ≤ 1000) ∧ e = .returned (.slice (some ⟨g, 0, none⟩) n cap) ∧ n ≤ cap ∧ cap ≤ 9223372036854775807 ∧
    Holds w' g 0 ((zs.map fi).map fl) ∧ Below w.heap.size w w'

set_option maxHeartbeats 1000000 in
theorem makeList_any (a : Option Addr) (len cap : Nat) (xs : List Value) (w : World) (hx : CodeAt w a len xs) : Calls Try.prog 20 #[.slice a len cap] w (ListAns w) := by
  have H := Lib.hid hx
  clear hx
  obtain ⟨i0, hi, hz0, hz1, hz2⟩ := info_parts elemInfo
  go_enter Try.func20, Try.ntmps20
  go_wp2_with fail
  refine (l01New_any _ _ _ _ _ H.out).mono ?_
  rintro e w1 ⟨c, rfl, hc, hc1, hb1⟩
  have hcs : c < w1.heap.size := curAt_lt hc1
  have R := Lib.hid (show _ ∧ _ from ⟨hc1, hb1⟩)
  clear hc1 hb1
  go_wp2_with fail
  refine (l01Below_any c 20 _ (curAt_below R.out.1 ((Below.refl _ _).alloc (Nat.le_refl _) _)) (by decide) (by decide)).mono ?_
  rintro e w2 ⟨x, rfl, hx, hc2, hk2⟩
  have H2 := Lib.hid (show IntRel w1 c 0 (.slice (some ⟨w1.heap.size, 0, none⟩) 0 0) w2 from
    ⟨[], _, _, rfl, (fun z hz => by cases hz), rfl, Nat.le_refl _, (World.ownsRow_lit w1 #[] 0 (Nat.le_refl _) (by decide) rfl).kept (grown_of_kp hk2) (.inr (by simp [Value.ownBlock]; omega)), hc2, (Kp.refl _ _).alloc _ |>.trans hk2⟩)
  clear hc2 hk2
  go_wp2_with fail
  go_loopw [4, 5] (fun v i wr => ∃ n k : Nat, n + k ≤ 20 ∧ i = .int .i64 k ∧ IntRel w1 c n v wr) (fun _ i _ => (intOf i).toNat)
  case atStart => exact ⟨0, x, by omega, rfl, H2.out⟩
  case round =>
    obtain ⟨n, k, hk, rfl, hrel⟩ := hrel
    have HR := Lib.hid hrel
    clear hrel H2
    obtain ⟨zs, g, cp, hz, hzb, rfl, hg, hown, hcr, hkr⟩ := HR.out
    have HO := Lib.hid (show _ ∧ _ ∧ _ ∧ _ ∧ _ from ⟨hz, hzb, hown, hcr, hkr⟩)
    clear hz hzb hown hcr hkr
    by_cases hlt : (0 : Int) < (k : Int)
    · go_wp2_with fail
      refine (l01Below_any c 2001 _ HO.out.2.2.2.1 (by decide) (by decide)).mono ?_
      rintro e w3 ⟨y, rfl, hy, hc3, hk3⟩
      have H3 := Lib.hid (show _ ∧ _ ∧ _ from ⟨HO.out.2.2.1.kept (grown_of_kp hk3) (.inr (by simp [Value.ownBlock]; omega)), hc3, HO.out.2.2.2.2.trans hk3⟩)
      clear hc3 hk3
      go_wp2_with (at_builtin; refine wpList_append_own _ rfl _ _ 22 rfl w1.heap.size 23 i0 (.float .f32 0) 1 4 Try.underlying22 hi hz0 hz1 hz2 rfl (by decide) _ _ _ rfl (H3.out.1.alloc _) ⟨w3.heap.size, 0, none⟩ 1 1 [_] rfl rfl (cell_one_new _ _ _) ?c2 ?c3 ?c4 ?c5 ?_)
      case c2 => intro x hx; rw [List.mem_singleton] at hx; subst hx; rfl
      case c3 => unfold maxLen; omega
      case c4 => omega
      case c5 => have := H3.out.2.2.size; simp; omega
      intro v' w4 hown4 hgrow _
      obtain ⟨g4, cp4, hv4, hg4⟩ := owns_slice hown4 (by omega)
      subst hv4
      have hle : w1.heap.size ≤ w3.heap.size := H3.out.2.2.size
      have hblk : ∀ j, j < w1.heap.size → w4.heap[j]? = w3.heap[j]? := fun j hj => (hgrow.block j (by simp; omega) (by simp [Value.ownBlock]; omega)).trans (Below.heap_alloc _ _ _ (by omega))
      have hk4 : Kp c w1 w4 := ⟨hgrow.os.trans H3.out.2.2.os, hgrow.tape.trans H3.out.2.2.tape, hgrow.output.trans H3.out.2.2.output, Nat.le_trans (Nat.le_trans hle (by simp)) hgrow.size, fun j hj hjc => (hblk j hj).trans (H3.out.2.2.block j hj hjc)⟩
      have HN := Lib.hid (show IntRel w1 c (n + 1) (.slice (some ⟨g4, 0, none⟩) (n + 1) cp4) w4 from
        ⟨zs ++ [(y : Int) - 1000], g4, cp4, by simp [HO.out.1], (fun z hz => by
          rcases List.mem_append.1 hz with hz | hz
          · exact HO.out.2.1 z hz
          · rw [List.mem_singleton] at hz; subst hz; omega), rfl, hg4, by rw [List.map_append, List.map_append, List.map_map]; exact hown4, curAt_keep H3.out.2.1 (fun k hk => hblk k (by omega)), hk4⟩)
      clear hown4 hgrow hk4 hblk hle
      go_wp2_with fail
      go_roundw
      case rel => exact ⟨n + 1, k - 1, by omega, by go_num, HN.out⟩
      case measure => simp [intOf]; omega
    · go_wp2_with fail
      go_ret
      obtain ⟨hz, hzb, hown, hcr, hkr⟩ := HO.out
      obtain ⟨hc1, hc2⟩ := owns_cap hown
      exact ⟨zs, g, n, cp, hz, by omega, hzb, rfl, hc1, hc2, holds_of_owns hown, R.out.2.trans (hkr.below hc R.out.2.size)⟩
end Go.Proofs.Ytpjplcbcbabbnaa
