/-
  AppendWindow of the program.
-/
import Derived.Test.YtmfgffgfggkgcaaAppI
namespace Go.Proofs.Ytmfgffgfggkgcaa
open Go.RowKit
def AwAns (S : List (Nat × Nat)) (L : List Ls) (ti fi : Int) (w : World) (e : Ending) (w' : World) : Prop :=
  (awOk S L ti fi = true ∧ ∃ (a : Option Addr) (ca : Nat) (b : Option Addr) (cb : Nat), e = .returned (.tuple #[.agg #[.slice a S.length ca, .slice b L.length cb], .bool true]) ∧ PoO w.heap.size w' (.slice a S.length ca) (.slice b L.length cb) (appS S L ti (winP S L fi)) (moreL L ti (winP S L fi).length) ∧ Below w.heap.size w w') ∨
  (awOk S L ti fi = false ∧ e = .returned (.tuple #[.agg #[.slice none 0 0, .slice none 0 0], .bool false]) ∧ Below w.heap.size w w')
set_option maxHeartbeats 4000000 in
theorem appendWindow_i (B : Nat) (v0 v1 : Value) (S : List (Nat × Nat)) (L : List Ls) (ti fi : Int) (w : World) (hp : PoO B w v0 v1 S L) :
    Calls Try.prog 12 #[.agg #[v0, v1], .int .i64 ti, .int .i64 fi] w (AwAns S L ti fi w) := by
  obtain ⟨a, ca, rfl⟩ := hp.o0.open
  obtain ⟨b, cb, rfl⟩ := hp.o1.open
  have HT := Lib.hid hp
  have hle := hp.le0
  clear hp
  go_enter Try.func12, Try.ntmps12
  go_wp2_with fail
  have hX := PX.start w (.slice a S.length ca) (.slice b L.length cb)
  generalize (w.alloc (Obj.cells #[Value.slice a S.length ca, Value.slice b L.length cb] 25)).alloc (Obj.cells #[Value.slice none 0 0, Value.slice none 0 0] 25) = x at *
  have HX := Lib.hid hX
  clear hX
  refine (window_i B _ _ S L fi _ (HT.out.below HX.out.bel)).mono ?_
  rintro e y (⟨hok, d, cd, rfl, hZ, hb⟩ | ⟨hok, rfl, hb⟩)
  · have HY := Lib.hid (show _ ∧ _ ∧ _ from ⟨HX.out.keep hb, hZ, hok⟩)
    clear hb hZ hok
    obtain ⟨k0, k1, k2, k3, k4, k5⟩ := HY.out.1.cells
    go_wp2_with fail
    refine (append_i B _ _ _ S L ti d _ cd (winP S L fi) _ (HT.out.below HY.out.1.bel) HY.out.2.1 (winP_wf HT.out.wf) (by have := winP_le (S := S) (L := L) (id := fi); omega)).mono ?_
    rintro e z (⟨hok, a2, c2, b2, d2, rfl, ho, hbz⟩ | ⟨hok, rfl, hbz⟩)
    · have HZ := Lib.hid (show _ ∧ _ ∧ _ from ⟨HY.out.1.keep hbz, ho, hok⟩)
      clear hbz ho hok k0 k1 k2 k3 k4 k5
      obtain ⟨k0, k1, k2, k3, k4, k5⟩ := HZ.out.1.cells
      obtain ⟨e0, e1, hbF⟩ := HZ.out.1.stored (.slice a2 S.length c2) (.slice b2 L.length d2)
      have HF := Lib.hid hbF
      have hsz := HY.out.1.lt
      clear hbF
      go_wp2_with fail
      refine bodyPost_ret (by simp [results, Try.results12, go_sem, e0, e1]; try rfl) rfl ?_
      refine .inl ⟨?_, a2, c2, b2, d2, rfl, ((HZ.out.2.1.setLow (by omega)).setLow (by omega)).base (by omega), HF.out⟩
      unfold awOk
      rw [HY.out.2.2, HZ.out.2.2]; rfl
    · have HZ := Lib.hid (show _ ∧ _ from ⟨HY.out.1.keep hbz, hok⟩)
      clear hbz hok k0 k1 k2 k3 k4 k5
      obtain ⟨k0, k1, k2, k3, k4, k5⟩ := HZ.out.1.cells
      obtain ⟨e0, e1, hbF⟩ := HZ.out.1.stored (.slice none 0 0) (.slice none 0 0)
      have HF := Lib.hid hbF
      clear hbF
      go_wp2_with fail
      refine bodyPost_ret (by simp [results, Try.results12, go_sem, e0, e1]; try rfl) rfl ?_
      refine .inr ⟨?_, rfl, HF.out⟩
      unfold awOk
      rw [HY.out.2.2, HZ.out.2]; rfl
  · have HY := Lib.hid (show _ ∧ _ from ⟨HX.out.keep hb, hok⟩)
    clear hb hok
    obtain ⟨k0, k1, k2, k3, k4, k5⟩ := HY.out.1.cells
    obtain ⟨e0, e1, hbF⟩ := HY.out.1.stored (.slice none 0 0) (.slice none 0 0)
    have HB := Lib.hid hbF
    clear hbF
    go_wp2_with fail
    refine bodyPost_ret (by simp [results, Try.results12, go_sem, e0, e1]; try rfl) rfl ?_
    exact .inr ⟨by unfold awOk; rw [HY.out.2]; rfl, rfl, HB.out⟩
end Go.Proofs.Ytmfgffgfggkgcaa
