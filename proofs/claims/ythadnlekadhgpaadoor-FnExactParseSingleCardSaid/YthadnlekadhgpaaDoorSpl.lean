/-
  The reference splits a text at each 'p'.
-/
import Derived.Test.YthadnlekadhgpaaDoorSplP
import Derived.Test.YthadnlekadhgpaaDoorRd
import Derived.Test.YthadnlekadhgpaaDoorFresh
namespace Go.Proofs.YthadnlekadhgpaaDoor
open Go.RowKit
def strV (l : List UInt8) : Value := .string ⟨l.toArray⟩
theorem strInfo : (Tryd.prog.info? 9).map (fun i => (i.zero, i.size, i.bytes)) = some (some (.string ⟨#[]⟩), 1, 16) := by kernel_rfl
def SplRel (w : World) (l : List UInt8) (k f : Nat) (v : Value) (wr : World) : Prop :=
  ∃ ws : List (List UInt8), wr.ownsRow w.heap.size 9 1 v ws.length (ws.map strV) ∧ f ≤ k ∧ ws.length ≤ k ∧ splP l = ws ++ splF ((l.drop f).take (k - f)) (l.drop k) ∧ Below w.heap.size w wr
def SplAns (l : List UInt8) (w : World) (e : Ending) (w' : World) : Prop := ∃ v, e = .returned v ∧ w'.ownsRow w.heap.size 9 1 v (splP l).length ((splP l).map strV) ∧ Below w.heap.size w w'
theorem ext_mid (l : List UInt8) (f k : Nat) : (⟨l.toArray⟩ : ByteArray).extract f k = ⟨((l.drop f).take (k - f)).toArray⟩ := by
  apply ByteArray.ext
  simp [ByteArray.data_extract]
theorem cur_succ {l : List UInt8} {f k : Nat} (h : f ≤ k) (hk : k < l.length) : (l.drop f).take (k + 1 - f) = (l.drop f).take (k - f) ++ [l[k]] := by
  rw [show k + 1 - f = k - f + 1 by omega, List.take_succ_eq_append_getElem (by simp; omega), List.getElem_drop]
  congr 2
  simp only [show f + (k - f) = k by omega]
set_option maxHeartbeats 1000000 in
set_option maxRecDepth 100000 in
theorem split_any (l : List UInt8) (hl : l.length ≤ 1048576) (w : World) : Calls Tryd.prog 25 #[.string ⟨l.toArray⟩, .int .u8 112] w (SplAns l w) := by
  obtain ⟨i0, hi, hz0, hz1, hz2⟩ := info_parts strInfo
  have H0 := Lib.hid (ba_at l)
  have hz := ba_size l
  go_enter Tryd.func25, Tryd.ntmps25
  go_wp2_with fail
  go_loopw [5, 6, 7] (fun v fv iv wr => ∃ k f : Nat, k ≤ l.length ∧ iv = .int .i64 k ∧ fv = .int .i64 f ∧ SplRel w l k f v wr) (fun _ _ iv _ => l.length - (intOf iv).toNat)
  case atStart => exact ⟨0, 0, by omega, rfl, rfl, [], World.ownsRow_lit w #[] 0 (Nat.le_refl _) (by decide) rfl, by omega, by simp, by simp [splP], (Below.refl _ _).alloc (Nat.le_refl _) _⟩
  case round =>
    obtain ⟨k, f, hk, rfl, rfl, hrel⟩ := hrel
    have HR := Lib.hid hrel
    clear hrel
    by_cases hlt : (k : Int) < (l.length : Int)
    · have hk' : k < l.length := by omega
      obtain ⟨u, hu⟩ : ∃ u : Nat, l[k].toNat = u := ⟨_, rfl⟩
      have gk : ∀ h, ((⟨l.toArray⟩ : ByteArray)[k]'h).toNat = u := fun h => by rw [H0.out k hk' h, hu]
      by_cases h112 : u = 112
      · subst h112
        obtain ⟨ws, hown, hf, hwk, hs, hb⟩ := HR.out
        have HS := Lib.hid (show _ ∧ _ ∧ _ ∧ _ ∧ _ from ⟨hown, hwk, hs, hb, hu⟩)
        clear hown hwk hs hb hu HR
        have hf' : (f : Int) ≤ (k : Int) := by omega
        have hkl : (k : Int) ≤ (l.length : Int) := by omega
        go_wp2_with (at_builtin; refine wpList_append_own _ rfl _ _ 45 rfl w.heap.size 9 i0 (.string ⟨#[]⟩) 1 16 Tryd.underlying45 hi hz0 hz1 hz2 rfl (by decide) _ _ _ rfl (HS.out.1.alloc _) ⟨wr.heap.size, 0, none⟩ 1 1 [_] rfl rfl (cell_one_new _ _ _) ?c2 ?c3 ?c4 ?c5 ?_)
        case c2 => first | rfl | (intro x hx; rw [List.mem_singleton] at hx; subst hx; rfl)
        case c3 => unfold maxLen; have := HS.out.2.1; omega
        case c4 => have := HS.out.2.1; omega
        case c5 => have := HS.out.2.2.2.1.size; simp; omega
        intro v' w1 hown1 hgrow _
        have hbel1 : Below w.heap.size w w1 := (HS.out.2.2.2.1.alloc HS.out.2.2.2.1.size _).grown hgrow (by have := HS.out.2.2.2.1.size; simp; omega) (fun j hj => (HS.out.1.lt j hj).1)
        have HN := Lib.hid (show SplRel w l (k + 1) (k + 1) v' w1 from by
          refine ⟨ws ++ [(l.drop f).take (k - f)], ?_, Nat.le_refl _, by simp; exact HS.out.2.1, ?_, hbel1⟩
          · rw [List.length_append, List.map_append]
            have e := ext_mid l f k
            rw [e] at hown1
            exact hown1
          · have hd : l.drop k = l[k] :: l.drop (k + 1) := List.drop_eq_getElem_cons hk'
            have hc : l[k] = 112 := by rw [← UInt8.toNat_inj]; exact HS.out.2.2.2.2
            rw [HS.out.2.2.1, hd, splF, if_pos hc, List.append_assoc, Nat.sub_self, List.take_zero]
            rfl)
        clear hown1 hgrow hbel1
        go_wp2_with fail
        go_roundw
        case rel => exact ⟨k + 1, k + 1, by omega, by go_num, by go_num, HN.out⟩
        case measure => simp [intOf]; omega
      · have q : ((u : Int) == 112) = false := by simp; omega
        have HN := Lib.hid (show SplRel w l (k + 1) f _ wr from by
          obtain ⟨ws, hown, hf, hwk, hs, hb⟩ := HR.out
          refine ⟨ws, hown, by omega, by omega, ?_, hb⟩
          have hd : l.drop k = l[k] :: l.drop (k + 1) := List.drop_eq_getElem_cons hk'
          have hc : l[k] ≠ 112 := fun e => h112 (by rw [← hu, e]; rfl)
          rw [hs, hd, splF, if_neg hc, cur_succ hf hk'])
        clear HR hu
        go_wp2_with fail
        go_roundw
        case rel => exact ⟨k + 1, f, by omega, by go_num, rfl, HN.out⟩
        case measure => simp [intOf]; omega
    · obtain rfl : k = l.length := by omega
      obtain ⟨ws, hown, hf, hwk, hs, hb⟩ := HR.out
      have HS := Lib.hid (show _ ∧ _ ∧ _ ∧ _ ∧ True from ⟨hown, hwk, hs, hb, trivial⟩)
      clear hown hwk hs hb HR
      have hf' : (f : Int) ≤ (l.length : Int) := by omega
      go_wp2_with (at_builtin; refine wpList_append_own _ rfl _ _ 45 rfl w.heap.size 9 i0 (.string ⟨#[]⟩) 1 16 Tryd.underlying45 hi hz0 hz1 hz2 rfl (by decide) _ _ _ rfl (HS.out.1.alloc _) ⟨wr.heap.size, 0, none⟩ 1 1 [_] rfl rfl (cell_one_new _ _ _) ?c2 ?c3 ?c4 ?c5 ?_)
      case c2 => first | rfl | (intro x hx; rw [List.mem_singleton] at hx; subst hx; rfl)
      case c3 => unfold maxLen; have := HS.out.2.1; omega
      case c4 => have := HS.out.2.1; omega
      case c5 => have := HS.out.2.2.2.1.size; simp; omega
      intro v' w1 hown1 hgrow _
      have hbel1 : Below w.heap.size w w1 := (HS.out.2.2.2.1.alloc HS.out.2.2.2.1.size _).grown hgrow (by have := HS.out.2.2.2.1.size; simp; omega) (fun j hj => (HS.out.1.lt j hj).1)
      have HN := Lib.hid (show w1.ownsRow w.heap.size 9 1 v' (splP l).length ((splP l).map strV) from by
        have e : splP l = ws ++ [(l.drop f).take (l.length - f)] := by
          rw [HS.out.2.2.1, List.drop_length, splF]
        rw [e, List.length_append, List.map_append]
        rw [ext_mid l f l.length] at hown1
        exact hown1)
      have HB := Lib.hid hbel1
      clear hown1 hgrow hbel1
      go_wp2_with fail
      go_ret
      exact ⟨_, rfl, HN.out, HB.out⟩
end Go.Proofs.YthadnlekadhgpaaDoor
