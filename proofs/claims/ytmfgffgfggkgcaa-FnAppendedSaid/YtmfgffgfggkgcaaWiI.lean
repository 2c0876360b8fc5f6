/-
  copyPool, isLent and WindowOf of the program.
-/
import Derived.Test.YtmfgffgfggkgcaaPoI
import Derived.Test.YtmfgffgfggkgcaaAwS
import Derived.Lib.SliceRun
namespace Go.Proofs.Ytmfgffgfggkgcaa
open Go.RowKit
def CloneAns (e sz m : Nat) (xs : List Value) (w : World) (en : Ending) (w' : World) : Prop :=
  ∃ a cap, en = .returned (.slice a m cap) ∧ OR w' w.heap.size e sz (.slice a m cap) m xs ∧ Below w.heap.size w w'
set_option maxHeartbeats 1000000 in
theorem clone_c (ad : Option Addr) (m c : Nat) (xs : List Value) (w : World) (hm : m ≤ 1048576) (hs : SrcAt w 1 ad m xs) (hn : ad = none → c = 0) :
    Calls Try.prog 44 #[.slice ad m c] w (CloneAns 37 1 m xs w) := by
  obtain ⟨i0, hic, hz0, hz1, hz2⟩ := info_parts cxInfo'
  have hnil : ∀ (a : Option Addr) (n c : Nat) (w : World), (binOp .eql 22 (.slice a n c) (.slice none 0 0)).run Try.prog w = .ok (.bool a.isNone) w := fun a n c w => Lib.run_eql_slice_nil w _ _ a n c 0 0 Try.underlying22
  cases ad with
  | none =>
    have hm0 : m = 0 := by
      rcases hs.2 with h | ⟨_, _, h, _⟩
      · exact h
      · cases h
    subst hm0
    have hx : xs = [] := List.eq_nil_of_length_eq_zero (by simpa using hs.1)
    have hc := hn rfl
    subst hx hc
    clear hs hn
    go_enter Try.func44, Try.ntmps44
    go_wp2_with fail
    go_ret
    exact ⟨none, 0, rfl, OR.nil _ _ _ _, Below.refl _ _⟩
  | some b =>
    have HS := Lib.hid hs
    clear hs hn
    go_enter Try.func44, Try.ntmps44
    go_wp2_with (at_builtin; refine wpList_append_or rfl _ _ 22 rfl 37 i0 (.complex .f32 0 0) 1 8 Try.underlying22 hic hz0 hz1 hz2 rfl _ _ m _ xs rfl rfl ?c1 ?c2 w.heap.size (HS.out.below (by omega) (bel_one _ _)) (by simp) ?_)
    case c1 => unfold maxLen; omega
    case c2 => omega
    intro a' cap' w' hO hb
    have HN := Lib.hid (show _ ∧ Below w.heap.size w w' from ⟨hO, (bel_one w (.cells #[] 37)).trans (hb.mono (by omega))⟩)
    clear hO hb
    go_wp2_with fail
    go_ret
    exact ⟨some a', cap', rfl, HN.out.1, HN.out.2⟩
set_option maxHeartbeats 1000000 in
theorem clone_l (ad : Option Addr) (m c : Nat) (xs : List Value) (w : World) (hm : m ≤ 1048576) (hs : SrcAt w 4 ad m xs) (hn : ad = none → c = 0) :
    Calls Try.prog 46 #[.slice ad m c] w (CloneAns 52 4 m xs w) := by
  obtain ⟨i1, hii, hy0, hy1, hy2⟩ := info_parts lsInfo
  have hnil : ∀ (a : Option Addr) (n c : Nat) (w : World), (binOp .eql 23 (.slice a n c) (.slice none 0 0)).run Try.prog w = .ok (.bool a.isNone) w := fun a n c w => Lib.run_eql_slice_nil w _ _ a n c 0 0 Try.underlying23
  cases ad with
  | none =>
    have hm0 : m = 0 := by
      rcases hs.2 with h | ⟨_, _, h, _⟩
      · exact h
      · cases h
    subst hm0
    have hx : xs = [] := List.eq_nil_of_length_eq_zero (by simpa using hs.1)
    have hc := hn rfl
    subst hx hc
    clear hs hn
    go_enter Try.func46, Try.ntmps46
    go_wp2_with fail
    go_ret
    exact ⟨none, 0, rfl, OR.nil _ _ _ _, Below.refl _ _⟩
  | some b =>
    have HS := Lib.hid hs
    clear hs hn
    go_enter Try.func46, Try.ntmps46
    go_wp2_with (at_builtin; refine wpList_append_or rfl _ _ 23 rfl 52 i1 (lsV (0, 0, 0, false)) 4 32 Try.underlying23 hii hy0 hy1 hy2 rfl _ _ m _ xs rfl rfl ?c1 ?c2 w.heap.size (HS.out.below (by omega) (bel_one _ _)) (by simp) ?_)
    case c1 => unfold maxLen; omega
    case c2 => omega
    intro a' cap' w' hO hb
    have HN := Lib.hid (show _ ∧ Below w.heap.size w w' from ⟨hO, (bel_one w (.cells #[] 52)).trans (hb.mono (by omega))⟩)
    clear hO hb
    go_wp2_with fail
    go_ret
    exact ⟨some a', cap', rfl, HN.out.1, HN.out.2⟩
theorem OR.nocap {w : World} {B e sz n cap : Nat} {a : Option Addr} {xs : List Value} (h : OR w B e sz (.slice a n cap) n xs) : a = none → cap = 0 := by
  rintro rfl
  rcases h with ⟨b, he, -, -⟩ | h
  · cases he
  · rcases row_val h with ⟨he, -⟩ | ⟨g, c, he, -⟩
    · cases he; rfl
    · cases he
set_option maxHeartbeats 4000000 in
theorem copy_i (B : Nat) (v0 v1 : Value) (S : List (Nat × Nat)) (L : List Ls) (w : World) (hp : PoO B w v0 v1 S L) :
    Calls Try.prog 32 #[.agg #[v0, v1]] w (CopyP S L w) := by
  obtain ⟨a, ca, rfl⟩ := hp.o0.open
  obtain ⟨b, cb, rfl⟩ := hp.o1.open
  obtain ⟨n, hSn⟩ : ∃ n, n = S.length := ⟨_, rfl⟩
  obtain ⟨m, hLm⟩ : ∃ m, m = L.length := ⟨_, rfl⟩
  have hn : n ≤ 256 := by rw [hSn]; exact hp.le0
  have hm : m ≤ 16 := by rw [hLm]; exact hp.le1
  have HP := Lib.hid hp
  have HL := Lib.hid (show _ ∧ _ from ⟨hSn, hLm⟩)
  have hs0 : SrcAt w 1 a n (S.map cx) := by rw [hSn]; exact hp.o0.src
  have hs1 : SrcAt w 4 b m (rowL L) := by rw [hLm]; exact hp.o1.src
  have hn0 := hp.o0.nocap
  have hn1 := hp.o1.nocap
  have HS := Lib.hid (show _ ∧ _ ∧ _ ∧ _ from ⟨hs0, hs1, hn0, hn1⟩)
  clear hp hs0 hs1 hn0 hn1
  rw [← hSn, ← hLm]
  clear hSn hLm
  go_enter Try.func32, Try.ntmps32
  go_upto_region 1 with fail
  have hX := PX.start w (.slice a n ca) (.slice b m cb)
  generalize (w.alloc (Obj.cells #[Value.slice a n ca, Value.slice b m cb] 25)).alloc (Obj.cells #[Value.slice none 0 0, Value.slice none 0 0] 25) = x at *
  obtain ⟨k0, k1, k2, k3, k4, k5⟩ := hX.cells
  have hx := hX.lt
  have HX := Lib.hid hX
  have hd : Below x.heap.size x x.drew := (Below.refl _ _).drew
  have HD := Lib.hid hd
  clear hd
  clear hX
  have HSS := Lib.hid (show (∀ W, Below x.heap.size x W → SrcAt W 1 a n (S.map cx)) ∧ (∀ W, Below x.heap.size x W → SrcAt W 4 b m (rowL L)) from ⟨fun W h => HS.out.1.below (by omega) (bel_go HX.out.bel h), fun W h => HS.out.2.1.below (by omega) (bel_go HX.out.bel h)⟩)
  have HK := Lib.hid (fun W (h : Kp (w.heap.size + 1) x W) => px_two HX.out h)
  go_region_held_law (fun w' => w'.cell? ⟨w.heap.size, 0, none⟩ = some (.slice a n ca) ∧ w'.cell? ⟨w.heap.size, 1, none⟩ = some (.slice b m cb))
    (first
      | exact HK.out _ (Kp.of_below HD.out)
      | exact HK.out _ (Kp.of_below H1.out.2.2)
      | exact HK.out _ (Kp.of_below H2.out.2.2.2)
      | exact HK.out _ (((Kp.of_below H2.out.2.2.2).setCell _).setCell _))
    (first
      | (go_at_call 44; refine (clone_c a n ca _ _ (by omega) (HSS.out.1 _ HD.out) HS.out.2.2.1).mono ?_; rintro e w1 ⟨g1, q1, rfl, ho, hb⟩; have H1 := Lib.hid (show _ ∧ _ ∧ _ from ⟨HX.out.keep (bel_go (x := x) HD.out hb), ho, bel_go (x := x) HD.out hb⟩); clear ho hb)
      | (go_at_call 46; refine (clone_l b m cb _ _ (by omega) (HSS.out.2 _ H1.out.2.2) HS.out.2.2.2).mono ?_; rintro e w2 ⟨g2, q2, rfl, ho, hb⟩; have H2 := Lib.hid (show _ ∧ _ ∧ _ ∧ _ from ⟨H1.out.1.keep hb, H1.out.2.1.below hb, ho, bel_go H1.out.2.2 hb⟩); clear ho hb; obtain ⟨m0, m1, m2, m3, m4, m5⟩ := H2.out.1.cells))
  all_goals
    obtain ⟨e0, e1, hbF⟩ := H2.out.1.stored (.slice g1 n q1) (.slice g2 m q2)
    have HF := Lib.hid hbF
    clear hbF
    go_wp2_with fail
    refine bodyPost_ret (by simp [results, Try.results32, go_sem, e0, e1]; try rfl) rfl ?_
    have o0 := H2.out.2.1
    have o1 := H2.out.2.2.1
    have hs1 : x.heap.size ≤ w1.heap.size := H1.out.2.2.size
    obtain ⟨rfl, rfl⟩ := HL.out
    exact ⟨_, q1, _, q2, rfl, ⟨((OR.setLow o0 hx).setLow hx).base (show w.heap.size ≤ x.heap.size by omega), ((o1.setLow (by omega)).setLow (by omega)).base (by omega), HP.out.wf, HP.out.le0, HP.out.le1⟩, HF.out⟩
def lentI (L : List Ls) (id : Int) : Bool := decide (0 ≤ id) && (decide (id < L.length) && !lsF (L.getD id.toNat lsD))
theorem lentP_of {n : Nat} {L : List Ls} {id : Int} : lentP n L id = (isPoolP n L && lentI L id) := by
  unfold lentP lentI
  cases isPoolP n L <;> simp
set_option maxHeartbeats 1000000 in
theorem isLent_i (B : Nat) (v0 v1 : Value) (S : List (Nat × Nat)) (L : List Ls) (id : Int) (w : World) (hp : PoO B w v0 v1 S L) :
    Calls Try.prog 31 #[.agg #[v0, v1], .int .i64 id] w (IsAns (lentI L id) w) := by
  obtain ⟨a, ca, rfl⟩ := hp.o0.open
  obtain ⟨b, cb, rfl⟩ := hp.o1.open
  have HP := Lib.hid hp
  clear hp
  go_enter Try.func31, Try.ntmps31
  have hb1 := bel_one w (.cells #[.slice a S.length ca, .slice b L.length cb] 25)
  have HB := Lib.hid hb1
  by_cases h0 : 0 ≤ id
  · by_cases h1 : id < (L.length : Int)
    · obtain ⟨k, rfl⟩ : ∃ k : Nat, id = k := ⟨id.toNat, by omega⟩
      have hkL : k < L.length := by omega
      have hC : lentI L k = !lsF L[k] := by
        unfold lentI
        rw [decide_eq_true h0, decide_eq_true h1, getD_at hkL]; rfl
      have HC := Lib.hid hC
      obtain ⟨g, rfl, -, -, -, -, c3⟩ := lease_cells (HP.out.below HB.out).o1 hkL
      clear hC hb1
      go_wp2_with fail
      go_ret
      exact ⟨by rw [HC.out]; rfl, HB.out⟩
    · have HC := Lib.hid (show lentI L id = false by unfold lentI; rw [decide_eq_false h1]; simp)
      clear hb1
      go_wp2_with fail
      go_ret
      exact ⟨by rw [HC.out]; rfl, HB.out⟩
  · have HC := Lib.hid (show lentI L id = false by unfold lentI; rw [decide_eq_false h0]; rfl)
    clear hb1
    go_wp2_with fail
    go_ret
    exact ⟨by rw [HC.out]; rfl, HB.out⟩
end Go.Proofs.Ytmfgffgfggkgcaa
