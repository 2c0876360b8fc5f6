/-
  slices.Clone, and the copy of a table: of the program and of the reference.
-/
import Derived.Test.YtolflcjaglgphaaTab
import Derived.Test.YtolflcjaglgphaaRow
import Derived.Deep.RegionHeld3
import Derived.Deep.RegionLaw
import Derived.Lib.SliceRun
import Derived.Deep.DeepCutAuto
namespace Go.Proofs.Ytolflcjaglgphaa
open Go.RowKit

def ints (ls : List Int) : List Value := ls.map (Value.int .i64)
def RowAns (e0 m : Nat) (xs : List Value) (w : World) (e : Ending) (w' : World) : Prop :=
  ∃ a cap, e = .returned (.slice a m cap) ∧ w'.ownsRow w.heap.size e0 1 (.slice a m cap) m xs ∧ Below w.heap.size w w'
theorem cx_one (xs : List (Nat × Nat)) : ∀ u ∈ xs.map cx, u.oneCell' = true := by
  intro u hu; obtain ⟨p, _, rfl⟩ := List.mem_map.1 hu; rfl
theorem ints_one (xs : List Int) : ∀ u ∈ ints xs, u.oneCell' = true := by
  intro u hu; obtain ⟨p, _, rfl⟩ := List.mem_map.1 hu; rfl
set_option maxHeartbeats 1000000 in
theorem cloneC (b' : Nat) (u : Value) (m : Nat) (ps : List (Nat × Nat)) (w : World) (hm : m ≤ 1048576) (hu : w.ownsRow b' 33 1 u m (ps.map cx)) :
    Calls Try.prog 59 #[u] w (RowAns 33 m (ps.map cx) w) := by
  obtain ⟨i0, hic, hz0, hz1, hz2⟩ := info_parts cxInfo
  have hnil : ∀ (a : Option Addr) (n c : Nat) (w : World), (binOp .eql 22 (.slice a n c) (.slice none 0 0)).run Try.prog w = .ok (.bool a.isNone) w := fun a n c w => Lib.run_eql_slice_nil w _ _ a n c 0 0 Try.underlying22
  rcases hu.2 with ⟨rfl, rfl⟩ | ⟨g, cap, cur, rfl, _⟩
  · have hn : ps.map cx = [] := List.eq_nil_of_length_eq_zero (by simpa using hu.1)
    rw [hn]
    go_enter Try.func59, Try.ntmps59
    go_wp2_with fail
    go_ret
    exact ⟨none, 0, rfl, ⟨rfl, .inl ⟨rfl, rfl⟩⟩, Below.refl _ _⟩
  · have HU := Lib.hid hu
    clear hu
    go_enter Try.func59, Try.ntmps59
    go_wp2_with (at_builtin; refine wpList_append_row rfl _ _ 22 rfl w.heap.size 33 i0 (.complex .f32 0 0) 8 Try.underlying22 hic hz0 hz1 hz2 rfl _ 0 [] rfl (World.ownsRow_lit w #[] 0 (Nat.le_refl _) (by decide) rfl) b' _ m (ps.map cx) rfl (World.ownsRow.alloc HU.out _) (cx_one ps) ?c3 ?c4 ?c5 ?_)
    case c3 => unfold maxLen; omega
    case c4 => omega
    case c5 => simp
    intro a' cap' w' hown hgrow
    have HN := Lib.hid (show _ ∧ _ from ⟨hown, (show Below w.heap.size w w' from ((Below.refl _ _).alloc (Nat.le_refl _) _).grown hgrow (by simp) (fun j hj => by cases hj; exact Nat.le_refl _))⟩)
    clear hown hgrow
    go_wp2_with fail
    go_ret
    have h := HN.out
    exact ⟨a', cap', rfl, h.1, h.2⟩
set_option maxHeartbeats 1000000 in
theorem cloneI (b' : Nat) (u : Value) (m : Nat) (ls : List Int) (w : World) (hm : m ≤ 1048576) (hu : w.ownsRow b' 3 1 u m (ints ls)) :
    Calls Try.prog 60 #[u] w (RowAns 3 m (ints ls) w) := by
  obtain ⟨i0, hic, hz0, hz1, hz2⟩ := info_parts intInfo
  have hnil : ∀ (a : Option Addr) (n c : Nat) (w : World), (binOp .eql 23 (.slice a n c) (.slice none 0 0)).run Try.prog w = .ok (.bool a.isNone) w := fun a n c w => Lib.run_eql_slice_nil w _ _ a n c 0 0 Try.underlying23
  rcases hu.2 with ⟨rfl, rfl⟩ | ⟨g, cap, cur, rfl, _⟩
  · have hn : ints ls = [] := List.eq_nil_of_length_eq_zero (by simpa using hu.1)
    rw [hn]
    go_enter Try.func60, Try.ntmps60
    go_wp2_with fail
    go_ret
    exact ⟨none, 0, rfl, ⟨rfl, .inl ⟨rfl, rfl⟩⟩, Below.refl _ _⟩
  · have HU := Lib.hid hu
    clear hu
    go_enter Try.func60, Try.ntmps60
    go_wp2_with (at_builtin; refine wpList_append_row rfl _ _ 23 rfl w.heap.size 3 i0 (.int .i64 0) 8 Try.underlying23 hic hz0 hz1 hz2 rfl _ 0 [] rfl (World.ownsRow_lit w #[] 0 (Nat.le_refl _) (by decide) rfl) b' _ m (ints ls) rfl (World.ownsRow.alloc HU.out _) (ints_one ls) ?c3 ?c4 ?c5 ?_)
    case c3 => unfold maxLen; omega
    case c4 => omega
    case c5 => simp
    intro a' cap' w' hown hgrow
    have HN := Lib.hid (show _ ∧ _ from ⟨hown, (show Below w.heap.size w w' from ((Below.refl _ _).alloc (Nat.le_refl _) _).grown hgrow (by simp) (fun j hj => by cases hj; exact Nat.le_refl _))⟩)
    clear hown hgrow
    go_wp2_with fail
    go_ret
    have h := HN.out
    exact ⟨a', cap', rfl, h.1, h.2⟩
/-- What a copy reads, while it goes on. -/
structure CS (w : World) (a b : Option Addr) (n m ca cb b1 b2 : Nat) (ps : List (Nat × Nat)) (ls : List Int) (x : World) : Prop where
  c0 : x.cell? ⟨w.heap.size, 0, none⟩ = some (.slice a n ca)
  c1 : x.cell? ⟨w.heap.size, 1, none⟩ = some (.slice b m cb)
  own0 : x.ownsRow b1 33 1 (.slice a n ca) n (ps.map cx)
  own1 : x.ownsRow b2 3 1 (.slice b m cb) m (ints ls)
  hp : x.heap[w.heap.size + 1]? = some (.cells #[.slice none 0 0, .slice none 0 0] 25 (0, 0))
  bel : Below w.heap.size w x
section
variable {w : World} {a b : Option Addr} {n m ca cb b1 b2 : Nat} {ps : List (Nat × Nat)} {ls : List Int} {x x' : World}
theorem CS.drew (h : CS w a b n m ca cb b1 b2 ps ls x) : CS w a b n m ca cb b1 b2 ps ls x.drew := ⟨h.c0, h.c1, h.own0, h.own1, h.hp, h.bel.drew⟩
theorem CS.keep (hb : Below x.heap.size x x') (h : CS w a b n m ca cb b1 b2 ps ls x) : CS w a b n m ca cb b1 b2 ps ls x' := by
  obtain ⟨h1, h2, h3, h4, h5, h6⟩ := h
  have hs : w.heap.size + 1 < x.heap.size := (Array.getElem?_eq_some_iff.1 h5).1
  exact ⟨by rw [hb.cell (p := ⟨w.heap.size, 0, none⟩) (show w.heap.size < _ by omega)]; exact h1, by rw [hb.cell (p := ⟨w.heap.size, 1, none⟩) (show w.heap.size < _ by omega)]; exact h2, own_below h3 hb, own_below h4 hb, by rw [hb.block _ hs]; exact h5, h6.trans (hb.mono h6.size)⟩
theorem CS.all (h : CS w a b n m ca cb b1 b2 ps ls x) : x.cell? ⟨w.heap.size, 0, none⟩ = some (.slice a n ca) ∧ x.cell? ⟨w.heap.size, 1, none⟩ = some (.slice b m cb) ∧ CS w a b n m ca cb b1 b2 ps ls x := ⟨h.c0, h.c1, h⟩
theorem CS.facts (h : CS w a b n m ca cb b1 b2 ps ls x) : x.cell? ⟨w.heap.size, 0, none⟩ = some (.slice a n ca) ∧ x.cell? ⟨w.heap.size, 1, none⟩ = some (.slice b m cb) ∧
    x.cell? ⟨w.heap.size + 1, 0, none⟩ = some (.slice none 0 0) ∧ x.cell? ⟨w.heap.size + 1, 1, none⟩ = some (.slice none 0 0) ∧ x.frozen? ⟨w.heap.size + 1, 0, none⟩ = false ∧ x.frozen? ⟨w.heap.size + 1, 1, none⟩ = false :=
  ⟨h.c0, h.c1, cell_of_row _ _ 0 _ _ _ h.hp, cell_of_row _ _ 1 _ _ _ h.hp, frozen_of_row _ _ 0 _ _ h.hp, frozen_of_row _ _ 1 _ _ h.hp⟩
theorem trip_own0 (h : x.cell? ⟨w.heap.size, 0, none⟩ = some (.slice a n ca) ∧ x.cell? ⟨w.heap.size, 1, none⟩ = some (.slice b m cb) ∧ CS w a b n m ca cb b1 b2 ps ls x) : x.ownsRow b1 33 1 (.slice a n ca) n (ps.map cx) := h.2.2.own0
theorem trip_own1 (h : x.cell? ⟨w.heap.size, 0, none⟩ = some (.slice a n ca) ∧ x.cell? ⟨w.heap.size, 1, none⟩ = some (.slice b m cb) ∧ CS w a b n m ca cb b1 b2 ps ls x) : x.ownsRow b2 3 1 (.slice b m cb) m (ints ls) := h.2.2.own1
theorem trip_keep (hb : Below x.heap.size x x') (h : x.cell? ⟨w.heap.size, 0, none⟩ = some (.slice a n ca) ∧ x.cell? ⟨w.heap.size, 1, none⟩ = some (.slice b m cb) ∧ CS w a b n m ca cb b1 b2 ps ls x) :
    x'.cell? ⟨w.heap.size, 0, none⟩ = some (.slice a n ca) ∧ x'.cell? ⟨w.heap.size, 1, none⟩ = some (.slice b m cb) ∧ CS w a b n m ca cb b1 b2 ps ls x' := (h.2.2.keep hb).all
theorem CS.start (h0 : w.ownsRow b1 33 1 (.slice a n ca) n (ps.map cx)) (h1 : w.ownsRow b2 3 1 (.slice b m cb) m (ints ls)) :
    CS w a b n m ca cb b1 b2 ps ls ((w.alloc (Obj.cells #[Value.slice a n ca, Value.slice b m cb] 25)).alloc (Obj.cells #[Value.slice none 0 0, Value.slice none 0 0] 25)) := by
  have hb : Below w.heap.size w ((w.alloc (Obj.cells #[Value.slice a n ca, Value.slice b m cb] 25)).alloc (Obj.cells #[Value.slice none 0 0, Value.slice none 0 0] 25)) := ((Below.refl _ _).alloc (Nat.le_refl _) _).alloc (by simp) _
  have hh : ((w.alloc (Obj.cells #[Value.slice a n ca, Value.slice b m cb] 25)).alloc (Obj.cells #[Value.slice none 0 0, Value.slice none 0 0] 25)).heap[w.heap.size]? = some (.cells #[Value.slice a n ca, Value.slice b m cb] 25 (0, 0)) := by
    show ((w.heap.push _).push _)[w.heap.size]? = _
    rw [Array.getElem?_push, if_neg (by simp), Array.getElem?_push, if_pos rfl]
  exact ⟨cell_of_row _ _ 0 _ _ _ hh, cell_of_row _ _ 1 _ _ _ hh, own_below h0 hb, own_below h1 hb, by
    show ((w.heap.push _).push _)[w.heap.size + 1]? = _
    rw [Array.getElem?_push, if_pos (by simp)], hb⟩
end
/-- A fresh copy of a table. -/
def CopyTab (n m : Nat) (ps : List (Nat × Nat)) (ls : List Int) (w : World) (e : Ending) (w' : World) : Prop :=
  ∃ a ca b cb, e = .returned (.agg #[.slice a n ca, .slice b m cb]) ∧ w'.ownsRow w.heap.size 33 1 (.slice a n ca) n (ps.map cx) ∧ w'.ownsRow w.heap.size 3 1 (.slice b m cb) m (ints ls) ∧ Below w.heap.size w w'
set_option maxHeartbeats 2000000 in
theorem copyTable_i (b1 b2 : Nat) (v0 v1 : Value) (n m : Nat) (ps : List (Nat × Nat)) (ls : List Int) (w : World) (hn : n ≤ 1048576) (hm : m ≤ 1048576) (h0 : w.ownsRow b1 33 1 v0 n (ps.map cx)) (h1 : w.ownsRow b2 3 1 v1 m (ints ls)) :
    Calls Try.prog 44 #[.agg #[v0, v1]] w (CopyTab n m ps ls w) := by
  obtain ⟨a, ca, rfl⟩ := owns_form h0
  obtain ⟨b, cb, rfl⟩ := owns_form h1
  go_enter Try.func44, Try.ntmps44
  go_upto_region 1 with fail
  have hS := CS.start h0 h1
  clear h0 h1
  generalize (w.alloc (Obj.cells #[Value.slice a n ca, Value.slice b m cb] 25)).alloc (Obj.cells #[Value.slice none 0 0, Value.slice none 0 0] 25) = x at *
  obtain ⟨k0, k1, k2, k3, k4, k5⟩ := hS.facts
  have HS := Lib.hid hS
  clear hS
  go_region_with (first
      | (go_at_call 59; refine (cloneC b1 _ n ps _ hn ?_).mono ?_; (exact HS.out.own0); rintro e w1 ⟨a1, ca1, rfl, ho, hb⟩; have HS1 := Lib.hid (show _ ∧ _ ∧ _ from ⟨HS.out.drew.keep hb, ho, hb⟩); clear ho hb; obtain ⟨p0, p1, p2, p3, p4, p5⟩ := HS1.out.1.facts)
      | (go_at_call 60; refine (cloneI b2 _ m ls _ hm ?_).mono ?_; (exact HS1.out.1.own1); rintro e w2 ⟨a2, ca2, rfl, ho, hb⟩; have HS2 := Lib.hid (show _ ∧ _ ∧ _ from ⟨HS1.out.1.keep hb, ho, hb⟩); clear ho hb; obtain ⟨q0, q1, q2, q3, q4, q5⟩ := HS2.out.1.facts))
  all_goals
    have r0 := heap_setCell_same _ _ 0 _ _ (Value.slice a1 n ca1) HS2.out.1.hp
    have r1 := heap_setCell_same _ _ 1 _ _ (Value.slice a2 m ca2) r0
    have e0 : ((w2.setCell ⟨w.heap.size + 1, 0, none⟩ (Value.slice a1 n ca1)).setCell ⟨w.heap.size + 1, 1, none⟩ (Value.slice a2 m ca2)).cell? ⟨w.heap.size + 1, 0, none⟩ = some (Value.slice a1 n ca1) := cell_of_row _ _ 0 _ _ _ r1
    have e1 : ((w2.setCell ⟨w.heap.size + 1, 0, none⟩ (Value.slice a1 n ca1)).setCell ⟨w.heap.size + 1, 1, none⟩ (Value.slice a2 m ca2)).cell? ⟨w.heap.size + 1, 1, none⟩ = some (Value.slice a2 m ca2) := cell_of_row _ _ 1 _ _ _ r1
    clear r0 r1
    go_wp2_with fail
    refine bodyPost_ret (by simp [results, Try.results44, go_sem, e0, e1]; try rfl) rfl ?_
    have hx : w.heap.size + 1 < x.heap.size := (Array.getElem?_eq_some_iff.1 HS.out.hp).1
    have hs1 : x.heap.size ≤ w1.heap.size := HS1.out.2.2.size
    exact ⟨a1, ca1, a2, ca2, rfl, own_base (own_setCell (own_setCell (own_below HS1.out.2.1 HS2.out.2.2) hx) hx) (show w.heap.size ≤ x.heap.size by omega),
      own_base (own_setCell (own_setCell HS2.out.2.1 (by omega)) (by omega)) (by omega), (HS2.out.1.bel.setCell (Nat.le_succ _) _).setCell (Nat.le_succ _) _⟩
end Go.Proofs.Ytolflcjaglgphaa
