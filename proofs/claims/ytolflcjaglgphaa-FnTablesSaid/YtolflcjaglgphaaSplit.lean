/-
  A region that draws its order and ends in operations of one forced order: the head in whatever order, then the tail in its own. No program in sight.
-/
import Derived.StillTail
import Derived.Deep.RegionHeldLaw
namespace Go.Proofs.Ytolflcjaglgphaa
open Go
section
variable {P : Program} {Q : Exit → Act → World → Prop} {md : Region.Mode}
/-- What is asked behind the head: the tail; else what was asked. -/
def headQ (Q : Exit → Act → World → Prop) (R : Act → World → Prop) : Exit → Act → World → Prop
  | .normal => R
  | x => Q x
theorem upon_head {o : Oper} {a : Act} {K : Act → World → Prop} {R : Act → World → Prop} {r : Result Next} (h : o.upon P a K (headQ Q R) r) : o.upon P a K Q r := by
  cases r with
  | ok n w' =>
    cases n <;> simp only [Oper.upon] at h ⊢ <;>
      first
        | exact h
        | exact Calls.mono h (fun e w'' he => by cases e <;> exact he)
  | halt x w' => cases x <;> simp only [Oper.upon] at h ⊢ <;> exact h
/-- No operation is guarded; each waits for earlier ones alone. -/
def backB (l : List Oper) : Bool := (List.range l.length).all fun j => match l[j]? with
  | some o => o.guard.isNone && o.after.all fun e => decide (e.on < j)
  | none => true
theorem backB_spec {l : List Oper} (h : backB l = true) {j : Nat} {o : Oper} (hj : l[j]? = some o) : o.guard = none ∧ ∀ e ∈ o.after, e.on < j := by
  have hl : j < l.length := (List.getElem?_eq_some_iff.1 hj).1
  have := List.all_eq_true.1 h j (List.mem_range.2 hl)
  rw [hj] at this
  simp only [Bool.and_eq_true, Option.isNone_iff_eq_none] at this
  exact ⟨this.1, fun e he => by have := Array.all_eq_true'.1 this.2 e he; simpa using this⟩
theorem wpOp_head {l : List Oper} {n i : Nat} {a : Act} {w : World} {K K' : Act → World → Prop} {R : Act → World → Prop} (hb : backB l = true) (hi : i < n) (hK : ∀ a w, K a w → K' a w)
    (h : wpOp P (l.take n).toArray (headQ Q R) i K a w) : wpOp P l.toArray Q i K' a w := by
  refine wpOp_mono hK ?_
  unfold wpOp at h ⊢
  have e1 : (l.take n).toArray[i]? = l[i]? := by simp [hi]
  have e2 : l.toArray[i]? = l[i]? := by simp
  rw [e1] at h
  rw [e2]
  cases ho : l[i]? with
  | none => rw [ho] at h; exact h
  | some o =>
    rw [ho] at h
    have hg := (backB_spec hb ho).1
    have hw : ∀ ops : Array Oper, Region.wanted o (yielded ops a.tmps) = true := fun ops => by simp [Region.wanted, hg]
    simp only [hw, if_true] at h ⊢
    exact h.imp (fun h => upon_head h) (fun h => ⟨h.1, h.2⟩)
theorem wpAny_more {ops : Array Oper} : ∀ (f : Nat) (listed : Array Bool) (a : Act) (w : World), wpAny P md ops Q f listed a w → wpAny P md ops Q (f + 1) listed a w
  | 0, _, _, _, h => ⟨fun _ => h.2, fun i hi => by rw [h.1] at hi; cases hi⟩
  | f + 1, _, _, _, h => ⟨h.1, fun i hi => wpOp_mono (fun a' w' h' => wpAny_more f _ a' w' h') (h.2 i hi)⟩
theorem wpAny_more_n {ops : Array Oper} (f g : Nat) (listed : Array Bool) (a : Act) (w : World) (h : wpAny P md ops Q f listed a w) : wpAny P md ops Q (f + g) listed a w := by
  induction g with
  | zero => exact h
  | succ g ih => exact wpAny_more _ _ _ _ ih
/-- A head that is listed so far, the tail not. -/
structure SplitInv (md : Region.Mode) (l : List Oper) (n : Nat) (lh : Array Bool) (lo : Array Bool) : Prop where
  size : lh.size = n
  same : ∀ j, j < n → lo.getD j true = lh.getD j true ∧ lo.getD j false = lh.getD j false
  inv : HeadInv md l.toArray n lo
theorem SplitInv.set {l : List Oper} {n i : Nat} {lh lo : Array Bool} (h : SplitInv md l n lh lo) (hi : i ∈ Region.ready md l.toArray lo) (hin : i < n) : SplitInv md l n (lh.setIfInBounds i true) (lo.setIfInBounds i true) := by
  refine ⟨by simp [h.size], fun j hj => ?_, h.inv.set hi hin⟩
  by_cases hij : i = j
  · subst hij
    have h1 : i < lh.size := by rw [h.size]; exact hin
    have h2 : i < lo.size := by
      have := (mem_ready.1 hi).2
      obtain ⟨o, ho, _⟩ := this
      have := (Array.getElem?_eq_some_iff.1 ho).1
      rw [h.inv.size]; exact this
    simp [h1, h2]
  · rw [getD_set_ne true hij, getD_set_ne true hij, getD_set_ne false hij, getD_set_ne false hij]
    exact h.same j hj
theorem ready_head {l : List Oper} {n : Nat} {lh lo : Array Bool} (hb : backB l = true) (h : SplitInv md l n lh lo) {i : Nat} (hin : i < n) :
    i ∈ Region.ready md l.toArray lo ↔ i ∈ Region.ready md (l.take n).toArray lh := by
  rw [mem_ready, mem_ready]
  have e1 : (l.take n).toArray[i]? = l[i]? := by simp [hin]
  have e2 : l.toArray[i]? = l[i]? := by simp
  rw [e1, e2, (h.same i hin).1]
  constructor
  · rintro ⟨h1, o, ho, h2⟩
    exact ⟨h1, o, ho, fun e he hbd => by rw [← (h.same e.on (by have := (backB_spec hb ho).2 e he; omega)).2]; exact h2 e he hbd⟩
  · rintro ⟨h1, o, ho, h2⟩
    exact ⟨h1, o, ho, fun e he hbd => by rw [(h.same e.on (by have := (backB_spec hb ho).2 e he; omega)).2]; exact h2 e he hbd⟩
theorem all_listed {l : List Oper} {n : Nat} {lh lo : Array Bool} (hb : backB l = true) (h : SplitInv md l n lh lo) (hn : n ≤ l.length) (hr : Region.ready md (l.take n).toArray lh = []) : ∀ i, i < n → lh.getD i false = true := by
  intro i
  induction i using Nat.strongRecOn with
  | _ i ih =>
    intro hi
    cases hl : lh.getD i false with
    | true => rfl
    | false =>
      have hlt : lh.getD i true = false := getD_in (by rw [h.size]; exact hi) hl
      have : i ∈ Region.ready md (l.take n).toArray lh := by
        rw [mem_ready]
        have hil : i < l.length := by omega
        refine ⟨hlt, l[i], by simp [hi, hil], fun e he _ => ?_⟩
        have hon := (backB_spec hb (List.getElem?_eq_getElem hil)).2 e he
        exact ih e.on hon (by omega)
      rw [hr] at this
      cases this
theorem wpAny_split {l : List Oper} {n : Nat} {R : Act → World → Prop} (hb : backB l = true) (hs : Region.sinkB md l.toArray n = true) (hc : Region.chainB md l.toArray n = true) (hn : n < l.length)
    (hR : ∀ lo : Array Bool, HeadInv md l.toArray n lo → (∀ i, i < n → lo.getD i false = true) → ∀ a w, R a w → wpAny P md l.toArray Q (l.length - n) lo a w) :
    ∀ (f : Nat) (lh lo : Array Bool) (a : Act) (w : World), SplitInv md l n lh lo → wpAny P md (l.take n).toArray (headQ Q R) f lh a w → wpAny P md l.toArray Q (f + (l.length - n)) lo a w := by
  intro f
  induction f with
  | zero =>
    intro lh lo a w hi h
    rw [Nat.zero_add]
    refine hR lo hi.inv (fun i hin => ?_) a w h.2
    rw [(hi.same i hin).2]
    exact all_listed hb hi (by omega) h.1 i hin
  | succ f ih =>
    intro lh lo a w hi h
    by_cases hr : Region.ready md (l.take n).toArray lh = []
    · have h1 := hR lo hi.inv (fun i hin => by rw [(hi.same i hin).2]; exact all_listed hb hi (by omega) hr i hin) a w (h.1 hr)
      rw [Nat.add_comm]
      exact wpAny_more_n _ _ _ _ _ h1
    · have hun : ∃ i, i < n ∧ lo.getD i true = false := by
        obtain ⟨i, hin⟩ := List.exists_mem_of_ne_nil _ hr
        have := mem_ready.1 hin
        obtain ⟨h1, o, ho, _⟩ := this
        have hil : i < n := by
          have := (Array.getElem?_eq_some_iff.1 ho).1
          simp at this; omega
        exact ⟨i, hil, by rw [(hi.same i hil).1]; exact h1⟩
      obtain ⟨i0, hi0, hu0⟩ := hun
      have htail := tail_waits hs hc (by simpa using hn) hi.inv (n - i0) i0 rfl hi0 hu0
      rw [show f + 1 + (l.length - n) = (f + (l.length - n)) + 1 by omega]
      refine ⟨fun h0 => ?_, fun j hj => ?_⟩
      · exfalso
        obtain ⟨i, hin⟩ := List.exists_mem_of_ne_nil _ hr
        have hil : i < n := by
          obtain ⟨_, o, ho, _⟩ := mem_ready.1 hin
          have := (Array.getElem?_eq_some_iff.1 ho).1
          simp at this; omega
        have := (ready_head hb hi hil).2 hin
        rw [h0] at this
        cases this
      · have hjn : j < n := by
          rcases Nat.lt_or_ge j n with h | h
          · exact h
          · exact absurd hj (htail j h)
        have hj' := (ready_head hb hi hjn).1 hj
        exact wpOp_head hb hjn (fun a' w' h' => ih _ _ a' w' (hi.set hj hjn) h') (h.2 j hj')
/-- THE LAW: the first n operations as a region of their own, then the others in their order. -/
theorem wp_region_split {id : Nat} {a : Act} {w : World} {l : List Oper} (n : Nat) (hm : P.follows .mixedOrders = true)
    (hB : (backB l && decide (n < l.length) && Region.sinkB .any l.toArray n && Region.chainB .any l.toArray n && Region.seqB .any l.toArray (l.length - n) n (Array.replicate n true ++ Array.replicate (l.length - n) false)) = true)
    (h : wpAny P .any (l.take n).toArray (headQ Q (wpList P l.toArray Q (l.drop n))) n (Array.replicate n false) a { w with drawn := w.drawn + 1 }) : (Code.region id l.toArray true).wp P Q a w := by
  simp only [Bool.and_eq_true, decide_eq_true_eq] at hB
  obtain ⟨⟨⟨⟨hb, hn⟩, hs⟩, hc⟩, hq⟩ := hB
  refine wp_region_any hm ?_
  have inv0 : HeadInv .any l.toArray n (Array.replicate l.toArray.size false) :=
    ⟨by simp, fun j oj _ hl => (by rw [getD_replicate_false] at hl; cases hl), fun t _ ht => getD_in (by simpa using ht) (getD_replicate_false _ _)⟩
  have := wpAny_split (Q := Q) hb hs hc hn (R := wpList P l.toArray Q (l.drop n)) (fun lo hi hall a w hw => by
    have hlo : lo = Array.replicate n true ++ Array.replicate (l.length - n) false := by
      have hsz := hi.size
      refine Array.ext (by simp at hsz ⊢; omega) fun j h1 h2 => ?_
      by_cases hj : j < n
      · have := hall j hj
        rw [Array.getElem_append_left (by simpa using hj)]
        simp [h1] at this
        simp [this]
      · have := hi.tail j (by omega) (by rw [hsz] at h1; simpa using h1)
        rw [Array.getElem_append_right (by simpa using hj)]
        simp [h1] at this
        simp [this]
    rw [hlo]
    have hdl : (l.drop n).length = l.length - n := by simp
    have := wpAny_of_seq (md := .any) (P := P) (Q' := Q) (ops := l.toArray) (l.drop n) n (Array.replicate n true ++ Array.replicate (l.length - n) false) a w (fun j => by simp [List.getElem?_drop]) (by rw [hdl]; exact hq) hw
    rwa [hdl] at this) n (Array.replicate n false) (Array.replicate l.toArray.size false) a _ ⟨by simp, fun j hj => by
      have h1 : j < l.length := by omega
      simp [hj, h1], inv0⟩ h
  rw [show n + (l.length - n) = l.toArray.size by simp; omega] at this
  exact this
end
end Go.Proofs.Ytolflcjaglgphaa
