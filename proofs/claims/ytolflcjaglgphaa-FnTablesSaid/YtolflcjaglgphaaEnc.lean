/-
  slices.Index, EncodeLabels and DecidePoints of the program, at a valid table that has an answer for each element.
-/
import Derived.Test.YtolflcjaglgphaaDist
import Derived.Test.YtolflcjaglgphaaCopy
namespace Go.Proofs.Ytolflcjaglgphaa
open Go.RowKit
set_option maxHeartbeats 1000000 in
theorem index_any (a : Option Addr) (n cap : Nat) (ls : List Int) (z : Int) (w : World) (hn : n ≤ 1048576) (hp : SlAt w a n (ints ls)) :
    Calls Try.prog 52 #[.slice a n cap, .int .i64 z] w fun e w' => e = .returned (.int .i64 (idxL ls z)) ∧ w' = w := by
  have hl : ls.length = n := by simpa [ints] using hp.1
  have HP := Lib.hid hp
  clear hp
  go_enter Try.func52, Try.ntmps52
  go_wp2_with fail
  go_loop [8] (fun i => ∃ k : Nat, k ≤ n ∧ i = .int .i64 k ∧ ∀ j (hj : j < ls.length), j < k → ls[j] ≠ z) (fun i => n - (intOf i).toNat)
  case atStart => exact ⟨0, by omega, rfl, fun j hj h => by omega⟩
  case round =>
    obtain ⟨k, hk, rfl, hall⟩ := hrel
    have HA := Lib.hid hall
    clear hall
    by_cases hlt : (k : Int) < (n : Int)
    · have hk' : k < ls.length := by omega
      rcases HP.out.2 with h | ⟨b, off, rfl, hh⟩
      · omega
      · have hcx : w.cell? ⟨b, off + k, none⟩ = some (.int .i64 ls[k]) := by
          rw [hh.at (by simpa [ints] using hk')]; simp [ints]
        clear hh
        by_cases he : z = ls[k]
        · have he1 : (z == ls[k]) = true := by simp [he]
          have HE := Lib.hid he
          clear he
          go_wp2_with fail
          go_ret
          exact ⟨ret_int (idxL_hit hk' HE.out.symm fun j hj => HA.out j (by omega) hj).symm, rfl⟩
        · have he1 : (z == ls[k]) = false := by simp [he]
          go_wp2_with fail
          go_round
          case rel =>
            refine ⟨k + 1, by omega, by go_num, fun j hj h => ?_⟩
            by_cases hjk : j = k
            · subst hjk; exact fun h => he h.symm
            · exact HA.out j hj (by omega)
          case measure => simp [intOf]; omega
    · go_wp2_with fail
      go_ret
      exact ⟨ret_int (idxL_miss fun j hj => HA.out j hj (by omega)).symm, rfl⟩
/-- The points that labels stand for. -/
def encP (ps : List (Nat × Nat)) (ls : List Int) (ns : List Int) : List (Nat × Nat) := ns.map fun n => ps.getD (idxL ls n).toNat (0, 0)
def PairAns (e0 m : Nat) (xs : List Value) (w : World) (e : Ending) (w' : World) : Prop :=
  ∃ a cap, e = .returned (.tuple #[.slice a m cap, .bool true]) ∧ w'.ownsRow w.heap.size e0 1 (.slice a m cap) m xs ∧ Below w.heap.size w w'
theorem take_snoc {α β : Type} (f : α → β) {xs : List α} {k : Nat} (hk : k < xs.length) : (xs.take (k + 1)).map f = (xs.take k).map f ++ [f xs[k]] := by
  rw [List.take_succ_eq_append_getElem hk, List.map_append]; rfl
set_option maxHeartbeats 2000000 in
theorem encode_i (v0 v1 : Value) (ps : List (Nat × Nat)) (ls ns : List Int) (w : World) (ht : TabIn w v0 v1 ps ls) (hok : isTab ps ls.length = true)
    (la : Option Addr) (m lc : Nat) (hns : SlAt w la m (ints ns)) (hm : m ≤ 300) (hall : ∀ i (hi : i < ns.length), 0 ≤ idxL ls ns[i]) :
    Calls Try.prog 23 #[.agg #[v0, v1], .slice la m lc] w (PairAns 33 m ((encP ps ls ns).map cx) w) := by
  have ht' := ht
  obtain ⟨a, n, ca, b, q, cb, rfl, rfl, hp, hq, hca, hca2, hcb, hcb2, hn, hq2, hwf⟩ := ht
  have hl : ps.length = n := by simpa using hp.1
  have hl2 : ls.length = q := by simpa using hq.1
  have hl3 : ns.length = m := by simpa [ints] using hns.1
  obtain rfl : n = q := by unfold isTab at hok; have := of_decide_eq_true hok; omega
  obtain ⟨i0, hic, hz0, hz1, hz2⟩ := info_parts cxInfo
  have hb : Below w.heap.size w (w.alloc (Obj.cells #[Value.slice a n ca, Value.slice b n cb] 25)) := (Below.refl _ _).alloc (Nat.le_refl _) _
  have HP := Lib.hid (show _ ∧ _ ∧ _ ∧ _ ∧ _ from ⟨hp.below hb, hq.below hb, hns.below hb, hb, ht'.below hb⟩)
  have HALL := Lib.hid hall
  clear hp hq hb hwf ht' hns hall
  go_enter Try.func23, Try.ntmps23
  go_wp2_with fail
  have hc0 : (w.alloc (Obj.cells #[Value.slice a n ca, Value.slice b n cb] 25)).cell? ⟨w.heap.size, 0, none⟩ = some (.slice a n ca) := by rw [World.cell?_alloc_new]; rfl
  have hc1 : (w.alloc (Obj.cells #[Value.slice a n ca, Value.slice b n cb] 25)).cell? ⟨w.heap.size, 1, none⟩ = some (.slice b n cb) := by rw [World.cell?_alloc_new]; rfl
  have hlw : w.heap.size < (w.alloc (Obj.cells #[Value.slice a n ca, Value.slice b n cb] 25)).heap.size := by simp
  generalize w.alloc (Obj.cells #[Value.slice a n ca, Value.slice b n cb] 25) = x at *
  have HC := Lib.hid (show _ ∧ _ from ⟨hc0, hc1⟩)
  refine (isTable_i _ _ ps ls _ HP.out.2.2.2.2).mono ?_
  rintro e y ⟨rfl, hby⟩
  rw [hok]
  have HY := Lib.hid hby
  clear hby hc0 hc1
  go_wp2_with fail
  go_loopw [6, 21] (fun ov kv wr => ∃ k g cap : Nat, k ≤ m ∧ kv = .int .i64 k ∧ ov = .slice (some ⟨g, 0, none⟩) k cap ∧ wr.ownsRow x.heap.size 33 1 (.slice (some ⟨g, 0, none⟩) k cap) k ((encP ps ls (ns.take k)).map cx) ∧ Below x.heap.size x wr) (fun _ kv _ => m - (intOf kv).toNat)
  case atStart => exact ⟨0, y.heap.size, 0, by omega, rfl, rfl, World.ownsRow_lit y #[] 0 HY.out.size (by decide) rfl, HY.out.alloc HY.out.size _⟩
  case round =>
    obtain ⟨k, g, cap, hk, rfl, rfl, hown, hbel⟩ := hrel
    have c0 : wr.cell? ⟨w.heap.size, 0, none⟩ = some (.slice a n ca) := by rw [hbel.cell (p := ⟨w.heap.size, 0, none⟩) hlw]; exact HC.out.1
    have c1 : wr.cell? ⟨w.heap.size, 1, none⟩ = some (.slice b n cb) := by rw [hbel.cell (p := ⟨w.heap.size, 1, none⟩) hlw]; exact HC.out.2
    have HR := Lib.hid (show _ ∧ _ ∧ _ ∧ _ ∧ _ from ⟨hown, hbel, HP.out.1.below hbel, HP.out.2.1.below hbel, HP.out.2.2.1.below hbel⟩)
    clear hown hbel
    by_cases hlt : (k : Int) < (m : Int)
    · have hk' : k < ns.length := by omega
      rcases HR.out.2.2.2.2.2 with h | ⟨lb, loff, rfl, lh⟩
      · omega
      · have hlx : wr.cell? ⟨lb, loff + k, none⟩ = some (.int .i64 ns[k]) := by
          rw [lh.at (by simpa [ints] using hk')]; simp [ints]
        clear lh
        go_wp2_with fail
        refine (index_any b n cb ls ns[k] _ hq2 HR.out.2.2.2.1).mono ?_
        rintro e w1 ⟨rfl, rfl⟩
        have h0 := HALL.out k hk'
        have h1 := idxL_bd ls ns[k]
        obtain ⟨j, hj⟩ : ∃ j : Nat, idxL ls ns[k] = j := ⟨(idxL ls ns[k]).toNat, by omega⟩
        have hjn : j < ps.length := by omega
        have hnew : (encP ps ls (ns.take (k + 1))).map cx = (encP ps ls (ns.take k)).map cx ++ [cx ps[j]] := by
          unfold encP
          rw [take_snoc _ hk', List.map_append, hj]
          simp [List.getD_eq_getElem?_getD, List.getElem?_eq_getElem hjn]
        rw [hj]
        clear h0 h1
        rcases HR.out.2.2.1.2 with h | ⟨pb, poff, rfl, ph⟩
        · omega
        · have hpx : w1.cell? ⟨pb, poff + j, none⟩ = some (.complex .f32 ps[j].1 ps[j].2) := by
            rw [ph.at (by simpa using hjn), List.getElem_map]; rfl
          clear ph
          have hj1 : (j : Int) < (n : Int) := by omega
          have HN := Lib.hid hnew
          clear hnew
          go_wp2_with (at_builtin; refine wpList_append_own _ rfl _ _ 22 rfl x.heap.size 33 i0 (.complex .f32 0 0) 1 8 Try.underlying22 hic hz0 hz1 hz2 rfl (by decide) _ _ _ rfl (HR.out.1.alloc _) ⟨w1.heap.size, 0, none⟩ 1 1 [_] rfl rfl (cell_one_new _ _ _) ?c2 ?c3 ?c4 ?c5 ?_)
          case c2 => intro x hx; rw [List.mem_singleton] at hx; subst hx; rfl
          case c3 => unfold maxLen; omega
          case c4 => omega
          case c5 => have := HR.out.2.1.size; simp; omega
          intro v' w3 hown hgrow _
          obtain ⟨g3, cp3, rfl, hg3⟩ := owns_some hown (by omega)
          have HN3 := Lib.hid (show _ ∧ _ from ⟨hown, (show Below x.heap.size x w3 from (HR.out.2.1.alloc HR.out.2.1.size _).grown hgrow (by have := HR.out.2.1.size; simp; omega) (fun j hj => (HR.out.1.lt j hj).1))⟩)
          clear hown hgrow
          go_wp2_with fail
          go_roundw
          case rel => exact ⟨k + 1, g3, cp3, by omega, by go_num, rfl, by rw [HN.out]; exact HN3.out.1, HN3.out.2⟩
          case measure => simp [intOf]; omega
    · obtain rfl : k = m := by omega
      go_wp2_with fail
      go_ret2
      refine ⟨_, _, rfl, ?_, HP.out.2.2.2.1.trans (HR.out.2.1.mono HP.out.2.2.2.1.size)⟩
      have := HR.out.1
      rw [← hl3, List.take_length, hl3] at this
      exact own_base this HP.out.2.2.2.1.size
/-- The labels of the nearest points. -/
def decP (ps : List (Nat × Nat)) (ls : List Int) (zs : List (Nat × Nat)) : List Int := zs.map fun z => ls.getD (nearI ps z).toNat 0
set_option maxHeartbeats 2000000 in
theorem decide_i (v0 v1 : Value) (ps : List (Nat × Nat)) (ls : List Int) (zs : List (Nat × Nat)) (w : World) (ht : TabIn w v0 v1 ps ls) (hok : isTab ps ls.length = true)
    (la : Option Addr) (m lc : Nat) (hns : SlAt w la m (zs.map cx)) (hm : m ≤ 300) (hall : ∀ i (hi : i < zs.length), 0 ≤ nearI ps zs[i]) :
    Calls Try.prog 24 #[.agg #[v0, v1], .slice la m lc] w (PairAns 3 m (ints (decP ps ls zs)) w) := by
  have ht' := ht
  obtain ⟨a, n, ca, b, q, cb, rfl, rfl, hp, hq, hca, hca2, hcb, hcb2, hn, hq2, hwf⟩ := ht
  have hl : ps.length = n := by simpa using hp.1
  have hl2 : ls.length = q := by simpa using hq.1
  have hl3 : zs.length = m := by simpa using hns.1
  obtain rfl : n = q := by unfold isTab at hok; have := of_decide_eq_true hok; omega
  obtain ⟨i0, hic, hz0, hz1, hz2⟩ := info_parts intInfo
  have hb : Below w.heap.size w (w.alloc (Obj.cells #[Value.slice a n ca, Value.slice b n cb] 25)) := (Below.refl _ _).alloc (Nat.le_refl _) _
  have HP := Lib.hid (show _ ∧ _ ∧ _ ∧ _ from ⟨hq.below hb, hns.below hb, hb, ht'.below hb⟩)
  have HALL := Lib.hid hall
  clear hp hq hb hwf ht' hns hall
  go_enter Try.func24, Try.ntmps24
  go_wp2_with fail
  have hc0 : (w.alloc (Obj.cells #[Value.slice a n ca, Value.slice b n cb] 25)).cell? ⟨w.heap.size, 0, none⟩ = some (.slice a n ca) := by rw [World.cell?_alloc_new]; rfl
  have hc1 : (w.alloc (Obj.cells #[Value.slice a n ca, Value.slice b n cb] 25)).cell? ⟨w.heap.size, 1, none⟩ = some (.slice b n cb) := by rw [World.cell?_alloc_new]; rfl
  have hlw : w.heap.size < (w.alloc (Obj.cells #[Value.slice a n ca, Value.slice b n cb] 25)).heap.size := by simp
  generalize w.alloc (Obj.cells #[Value.slice a n ca, Value.slice b n cb] 25) = x at *
  have HC := Lib.hid (show _ ∧ _ from ⟨hc0, hc1⟩)
  refine (isTable_i _ _ ps ls _ HP.out.2.2.2).mono ?_
  rintro e y ⟨rfl, hby⟩
  rw [hok]
  have HY := Lib.hid hby
  clear hby hc0 hc1
  go_wp2_with fail
  go_loopw [6, 22] (fun ov kv wr => ∃ k g cap : Nat, k ≤ m ∧ kv = .int .i64 k ∧ ov = .slice (some ⟨g, 0, none⟩) k cap ∧ wr.ownsRow x.heap.size 3 1 (.slice (some ⟨g, 0, none⟩) k cap) k (ints (decP ps ls (zs.take k))) ∧ Below x.heap.size x wr) (fun _ kv _ => m - (intOf kv).toNat)
  case atStart => exact ⟨0, y.heap.size, 0, by omega, rfl, rfl, World.ownsRow_lit y #[] 0 HY.out.size (by decide) rfl, HY.out.alloc HY.out.size _⟩
  case round =>
    obtain ⟨k, g, cap, hk, rfl, rfl, hown, hbel⟩ := hrel
    have c0 : wr.cell? ⟨w.heap.size, 0, none⟩ = some (.slice a n ca) := by rw [hbel.cell (p := ⟨w.heap.size, 0, none⟩) hlw]; exact HC.out.1
    have c1 : wr.cell? ⟨w.heap.size, 1, none⟩ = some (.slice b n cb) := by rw [hbel.cell (p := ⟨w.heap.size, 1, none⟩) hlw]; exact HC.out.2
    have HR := Lib.hid (show _ ∧ _ ∧ _ ∧ _ ∧ _ from ⟨hown, hbel, HP.out.1.below hbel, HP.out.2.1.below hbel, HP.out.2.2.2.below hbel⟩)
    clear hown hbel
    by_cases hlt : (k : Int) < (m : Int)
    · have hk' : k < zs.length := by omega
      rcases HR.out.2.2.2.1.2 with h | ⟨lb, loff, rfl, lh⟩
      · omega
      · have hlx : wr.cell? ⟨lb, loff + k, none⟩ = some (cx zs[k]) := by
          rw [lh.at (by simpa using hk'), List.getElem_map]
        clear lh
        go_wp2_with fail
        refine (nearest_i _ _ ps ls zs[k] _ HR.out.2.2.2.2).mono ?_
        rintro e w1 ⟨rfl, hb1⟩
        have h0 := HALL.out k hk'
        have h1 := nearI_bd ps zs[k]
        rw [hok, decide_eq_true h0]
        simp only [Bool.true_and, if_true]
        obtain ⟨j, hj⟩ : ∃ j : Nat, nearI ps zs[k] = j := ⟨(nearI ps zs[k]).toNat, by omega⟩
        have hjn : j < ls.length := by omega
        have hnew : ints (decP ps ls (zs.take (k + 1))) = ints (decP ps ls (zs.take k)) ++ [Value.int .i64 ls[j]] := by
          unfold decP ints
          rw [take_snoc _ hk', List.map_append, hj]
          simp [List.getD_eq_getElem?_getD, List.getElem?_eq_getElem hjn]
        rw [hj]
        clear h0 h1
        have HR1 := Lib.hid (show _ ∧ _ ∧ _ from ⟨own_below HR.out.1 hb1, HR.out.2.1.trans (hb1.mono HR.out.2.1.size), HR.out.2.2.1.below hb1⟩)
        have c2 : w1.cell? ⟨w.heap.size, 1, none⟩ = some (.slice b n cb) := by rw [HR1.out.2.1.cell (p := ⟨w.heap.size, 1, none⟩) hlw]; exact HC.out.2
        clear hb1
        rcases HR1.out.2.2.2 with h | ⟨pb, poff, rfl, ph⟩
        · omega
        · have hpx : w1.cell? ⟨pb, poff + j, none⟩ = some (.int .i64 ls[j]) := by
            rw [ph.at (by simpa using hjn), List.getElem_map]
          clear ph
          have hj1 : (j : Int) < (n : Int) := by omega
          have HN := Lib.hid hnew
          clear hnew
          go_wp2_with (at_builtin; refine wpList_append_own _ rfl _ _ 23 rfl x.heap.size 3 i0 (.int .i64 0) 1 8 Try.underlying23 hic hz0 hz1 hz2 rfl (by decide) _ _ _ rfl (HR1.out.1.alloc _) ⟨w1.heap.size, 0, none⟩ 1 1 [_] rfl rfl (cell_one_new _ _ _) ?c2 ?c3 ?c4 ?c5 ?_)
          case c2 => intro x hx; rw [List.mem_singleton] at hx; subst hx; rfl
          case c3 => unfold maxLen; omega
          case c4 => omega
          case c5 => have := HR1.out.2.1.size; simp; omega
          intro v' w3 hown hgrow _
          obtain ⟨g3, cp3, rfl, hg3⟩ := owns_some hown (by omega)
          have HN3 := Lib.hid (show _ ∧ _ from ⟨hown, (show Below x.heap.size x w3 from (HR1.out.2.1.alloc HR1.out.2.1.size _).grown hgrow (by have := HR1.out.2.1.size; simp; omega) (fun j hj => (HR1.out.1.lt j hj).1))⟩)
          clear hown hgrow
          go_wp2_with fail
          go_roundw
          case rel => exact ⟨k + 1, g3, cp3, by omega, by go_num, rfl, by rw [HN.out]; exact HN3.out.1, HN3.out.2⟩
          case measure => simp [intOf]; omega
    · obtain rfl : k = m := by omega
      go_wp2_with fail
      go_ret2
      refine ⟨_, _, rfl, ?_, HP.out.2.2.1.trans (HR.out.2.1.mono HP.out.2.2.1.size)⟩
      have := HR.out.1
      rw [← hl3, List.take_length, hl3] at this
      exact own_base this HP.out.2.2.1.size
end Go.Proofs.Ytolflcjaglgphaa
