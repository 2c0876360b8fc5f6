/-
  The walk of FnExactFormatSingle: it returns true of every number of single precision.
-/
import Derived.Test.YthadnlekadhgpaaDoorFmtI
namespace Go.Proofs.YthadnlekadhgpaaDoor
open Go.RowKit
theorem wf_word {x : Nat} (h : (Lit.float .f32 x).wf = true) : x < 4294967296 := by simpa [Lit.wf] using h
theorem fnExactFormatSingle_walk (x : Nat) (h : (Lit.float .f32 x).wf = true) (w : World) (hT : TabsAt w) :
    Calls Tryd.prog 3 #[.float .f32 x] w fun e w' => e = .returned (.bool true) ∧ Below w.heap.size w w' := by
  have H := Lib.hid (show _ ∧ _ from ⟨wf_word h, hT⟩)
  clear h hT
  go_enter Tryd.func3, Tryd.ntmps3
  go_wp2_with fail
  refine (format_s x H.out.1 _).mono ?_
  rintro e w1 ⟨rfl, hb1⟩
  have H1 := Lib.hid (show _ ∧ _ from ⟨hb1, H.out.2.keep hb1⟩)
  clear hb1
  go_wp2_with fail
  refine (format_i x H.out.1 _ H1.out.2).mono ?_
  rintro e w2 ⟨rfl, hb2⟩
  have H2 := Lib.hid (H1.out.1.trans (hb2.mono H1.out.1.size))
  clear hb2
  go_wp2_with fail
  go_ret
  exact ⟨rfl, H2.out⟩
end Go.Proofs.YthadnlekadhgpaaDoor
