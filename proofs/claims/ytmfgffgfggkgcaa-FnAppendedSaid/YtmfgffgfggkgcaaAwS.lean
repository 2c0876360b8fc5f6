/-
  AppendWindow of the reference.
-/
import Derived.Test.YtmfgffgfggkgcaaApS
namespace Go.Proofs.Ytmfgffgfggkgcaa
open Go.RowKit
/-- A window of the pool may be appended to a lease of it. -/
def awOk (S : List (Nat × Nat)) (L : List Ls) (ti fi : Int) : Bool := lentP S.length L fi && appOk S.length L ti (winP S L fi).length
theorem winP_wf {S : List (Nat × Nat)} {L : List Ls} {id : Int} (h : ∀ p ∈ S, p.1 < 4294967296 ∧ p.2 < 4294967296) : ∀ p ∈ winP S L id, p.1 < 4294967296 ∧ p.2 < 4294967296 :=
  fun p hp => h p (List.mem_of_mem_drop (List.mem_of_mem_take hp))
theorem winP_le {S : List (Nat × Nat)} {L : List Ls} {id : Int} : (winP S L id).length ≤ S.length := by
  unfold winP; simp; omega
set_option maxHeartbeats 4000000 in
theorem appendWindow_s (B : Nat) (v0 v1 : Value) (S : List (Nat × Nat)) (L : List Ls) (ti fi : Int) (w : World) (hp : PoO B w v0 v1 S L) :
    Calls Try.prog 13 #[.agg #[v0, v1], .int .i64 ti, .int .i64 fi] w (PoolR2 (awOk S L ti fi) w.heap.size w) := by
  obtain ⟨a, ca, rfl⟩ := hp.o0.open
  obtain ⟨b, cb, rfl⟩ := hp.o1.open
  have HT := Lib.hid hp
  have hle := hp.le0
  clear hp
  go_enter Try.func13, Try.ntmps13
  go_wp2_with fail
  have hX := PX.start w (.slice a S.length ca) (.slice b L.length cb)
  generalize (w.alloc (Obj.cells #[Value.slice a S.length ca, Value.slice b L.length cb] 25)).alloc (Obj.cells #[Value.slice none 0 0, Value.slice none 0 0] 25) = x at *
  have HX := Lib.hid hX
  clear hX
  refine (window_s B _ _ S L fi _ (HT.out.below HX.out.bel)).mono ?_
  rintro e y (⟨hok, d, cd, rfl, hZ, hb⟩ | ⟨hok, rfl, hb⟩)
  · have HY := Lib.hid (show _ ∧ _ ∧ _ from ⟨HX.out.keep hb, hZ, hok⟩)
    clear hb hZ hok
    obtain ⟨k0, k1, k2, k3, k4, k5⟩ := HY.out.1.cells
    go_wp2_with fail
    refine (append_s B _ _ _ S L ti d _ cd (winP S L fi) _ (HT.out.below HY.out.1.bel) HY.out.2.1 (winP_wf HT.out.wf) (by have := winP_le (S := S) (L := L) (id := fi); omega)).mono ?_
    rintro e z ⟨S2, L2, a2, c2, b2, d2, rfl, ho, hbz⟩
    have HZ := Lib.hid (show _ ∧ _ from ⟨HY.out.1.keep hbz, ho⟩)
    clear hbz ho k0 k1 k2 k3 k4 k5
    obtain ⟨k0, k1, k2, k3, k4, k5⟩ := HZ.out.1.cells
    obtain ⟨e0, e1, hbF⟩ := HZ.out.1.stored (.slice a2 S2.length c2) (.slice b2 L2.length d2)
    have HF := Lib.hid hbF
    have hsz := HY.out.1.lt
    clear hbF
    go_wp2_with fail
    refine bodyPost_ret (by simp [results, Try.results13, go_sem, e0, e1]; try rfl) rfl ?_
    refine ⟨S2, L2, a2, c2, b2, d2, ?_, ((HZ.out.2.setLow (by omega)).setLow (by omega)).base (by omega), HF.out⟩
    unfold awOk
    rw [HY.out.2.2, Bool.true_and]
  · have HY := Lib.hid (show _ ∧ _ from ⟨HX.out.keep hb, hok⟩)
    clear hb hok
    obtain ⟨k0, k1, k2, k3, k4, k5⟩ := HY.out.1.cells
    obtain ⟨e0, e1, hbF⟩ := HY.out.1.stored (.slice none 0 0) (.slice none 0 0)
    have HB := Lib.hid hbF
    clear hbF
    go_wp2_with fail
    refine bodyPost_ret (by simp [results, Try.results13, go_sem, e0, e1]; try rfl) rfl ?_
    exact ⟨[], [], none, 0, none, 0, by unfold awOk; rw [HY.out.2]; rfl, PoO.nil _ _, HB.out⟩
end Go.Proofs.Ytmfgffgfggkgcaa
