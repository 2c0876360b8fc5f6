/-
  The walk of FnExactParseSingle: it returns true of every text. The library's tables and errors lie as they are laid.
-/
import Derived.Test.YthadnlekadhgpaaDoorPrsS
import Derived.Test.YthadnlekadhgpaaDoorSame
namespace Go.Proofs.YthadnlekadhgpaaDoor
open Go.RowKit
def PrsAns (z : Nat) (ok : Bool) (w : World) (e : Ending) (w' : World) : Prop := e = .returned (.tuple #[.float .f32 z, .bool ok]) ∧ Below w.heap.size w w'
theorem parse_both (l : List UInt8) (hl : l.length ≤ 1048576) : ∃ z ok, (∀ w, Calls Tryd.prog 8 #[.string ⟨l.toArray⟩] w (PrsAns z ok w)) ∧
    (∀ w, LibAt w → Calls Tryd.prog 9 #[.string ⟨l.toArray⟩] w (PrsAns z ok w)) := by
  by_cases h : ∃ x, x < 4294967296 ∧ finB x = true ∧ fmtS x = l
  · obtain ⟨x, h1, h2, rfl⟩ := h
    exact ⟨x, true, fun w => parse_s_yes x h1 h2 w, fun w hw => parse_i_yes x h1 h2 w hw⟩
  · have hno : NoText l := fun x h1 h2 h3 => h ⟨x, h1, h2, h3⟩
    exact ⟨0, false, fun w => parse_s_no l hl hno w, fun w hw => parse_i_no l hl hno w hw⟩
set_option maxHeartbeats 1000000 in
theorem fnExactParseSingle_walk (a0 : ByteArray) (_ : a0.size ≤ maxLen) (w : World) (hT : TabsAt w) (hE : ErrsAt w) :
    Calls Tryd.prog 4 #[.string a0] w fun e w' => e = .returned (.bool true) ∧ Below w.heap.size w w' := by
  by_cases hl : a0.size ≤ 1048576
  · have hll : a0.data.toList.length ≤ 1048576 := by
      have : a0.data.toList.length = a0.size := Array.length_toList
      omega
    obtain ⟨z, ok, hs, hi⟩ := parse_both a0.data.toList hll
    have he : (⟨a0.data.toList.toArray⟩ : ByteArray) = a0 := by
      apply ByteArray.ext
      simp
    rw [he] at hs hi
    have H := Lib.hid (show _ ∧ _ ∧ LibAt w from ⟨hs, hi, hT, hE⟩)
    clear hs hi hT hE he hll
    go_enter Tryd.func4, Tryd.ntmps4
    go_wp2_with fail
    refine (H.out.1 _).mono ?_
    rintro e w1 ⟨rfl, hb1⟩
    have H1 := Lib.hid (show _ ∧ _ from ⟨hb1, H.out.2.2.keep hb1⟩)
    clear hb1
    go_wp2_with fail
    refine (H.out.2.1 _ H1.out.2).mono ?_
    rintro e w2 ⟨rfl, hb2⟩
    have H2 := Lib.hid (H1.out.1.trans (hb2.mono H1.out.1.size))
    clear hb2
    go_wp2_with fail
    refine (sameFloat_any _ _ _ (wide_both (FE.refl _ _) _ _)).mono ?_
    rintro e w3 ⟨n3, rfl, rfl⟩
    go_wp2_with fail
    go_ret
    exact ⟨rfl, below_drewN' H2.out⟩
  · have hg : (1048576 : Int) < (a0.size : Int) := by omega
    go_enter Tryd.func4, Tryd.ntmps4
    go_wp2_with fail
    go_ret
    exact ⟨rfl, Below.refl _ _⟩
end Go.Proofs.YthadnlekadhgpaaDoor
