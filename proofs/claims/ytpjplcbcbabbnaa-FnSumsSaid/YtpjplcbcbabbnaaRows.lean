/-
  No cell of these rows narrows 'for every input' (looked for: loops, veiled, ifaces, maps, wideKeys, modest, calm, conditions, laid).
  DERIVED. THE GIVEN ROWS OF THIS SEAT. 6 by the template 'for every input the law returns true; each argument reads behind the call as it read before'; 0 by the template 'total and deterministic' (their statements: YtpjplcbcbabbnaaTotals.lean).
  GIVEN WITH THE SEED: the statements are not yours to turn. If you find one false, say at which input.
  Laid BY PROGRAM, IN A SANDBOX (cutbox-rows.mjs): the forced cells as the released guide's own fill.sh prints them over the translation be8f2422a889437c… (all of the seat's roots in one cut). By AI agents, Wed Nov 11 2026. No macro, syntax, notation, axiom, sorry.
-/
import Derived.Test.YtpjplcbcbabbnaaChecked
import GoSem.Claim
import GoSem.ClaimJoined
import GoSem.ClaimMapViews
import Derived.JoinedTies
import Derived.KernelRfl
namespace Go.Proofs.Ytpjplcbcbabbnaa
/- THE CELL 'sum', in the pinned program and in every row, IS THE sha256 OF THE DUMP (.gsa) THAT YtpjplcbcbabbnaaProg.lean LOADS. Nothing in Lean hashes anything: it is a label: what it is worth is what the hold of that sum in a sandbox is worth. -/
noncomputable def Try.pinned : Pinned := { name := "ytpjplcbcbabbnaa", sum := "be8f2422a889437c6ae616f8ca72f24e9fa86d000e6d82dd27b6e8423f6664aa", checked := Try.checked }
namespace Rows
def none {H : Type} : Left H := { results := [], args := [] }

/-- 'laws.FnExactSumForward': WHATEVER THE INPUT: true; the input reads as it did. -/
def fnExactSumForwardSpec : ChangeSpec := { name := "fnExactSumForward", fn := fun _ => fun
  | [d] => { results := [.lit (.bool true)], args := [d] }
  | _ => none }
def fnExactSumForwardRow : OpenClaim := { program := "ytpjplcbcbabbnaa", sum := "be8f2422a889437c6ae616f8ca72f24e9fa86d000e6d82dd27b6e8423f6664aa", func := "loop.example/g03223/laws.FnExactSumForward", spec := "fnExactSumForward", apart := false }
def FnExactSumForwardSaid : Prop := fnExactSumForwardRow.holds Try.pinned (OpenSpec.ofChange fnExactSumForwardSpec)

/-- ITS FALSE NEIGHBOUR: 'it returns false'. Refute it at one input. -/
def fnExactSumForwardWrong : ChangeSpec := { name := "fnExactSumForward", fn := fun _ => fun
  | [d] => { results := [.lit (.bool false)], args := [d] }
  | _ => none }
def FnExactSumForwardWrongFalsely : Prop := fnExactSumForwardRow.holds Try.pinned (OpenSpec.ofChange fnExactSumForwardWrong)

/-- 'laws.FnExactSumPairs': WHATEVER THE INPUT: true; the input reads as it did. -/
def fnExactSumPairsSpec : ChangeSpec := { name := "fnExactSumPairs", fn := fun _ => fun
  | [d] => { results := [.lit (.bool true)], args := [d] }
  | _ => none }
def fnExactSumPairsRow : OpenClaim := { program := "ytpjplcbcbabbnaa", sum := "be8f2422a889437c6ae616f8ca72f24e9fa86d000e6d82dd27b6e8423f6664aa", func := "loop.example/g03223/laws.FnExactSumPairs", spec := "fnExactSumPairs", recurses := true, apart := false }
def FnExactSumPairsSaid : Prop := fnExactSumPairsRow.holds Try.pinned (OpenSpec.ofChange fnExactSumPairsSpec)

/-- ITS FALSE NEIGHBOUR: 'it returns false'. Refute it at one input. -/
def fnExactSumPairsWrong : ChangeSpec := { name := "fnExactSumPairs", fn := fun _ => fun
  | [d] => { results := [.lit (.bool false)], args := [d] }
  | _ => none }
def FnExactSumPairsWrongFalsely : Prop := fnExactSumPairsRow.holds Try.pinned (OpenSpec.ofChange fnExactSumPairsWrong)

/-- 'laws.FnExactSumSteady': WHATEVER THE INPUT: true; the input reads as it did. -/
def fnExactSumSteadySpec : ChangeSpec := { name := "fnExactSumSteady", fn := fun _ => fun
  | [d] => { results := [.lit (.bool true)], args := [d] }
  | _ => none }
def fnExactSumSteadyRow : OpenClaim := { program := "ytpjplcbcbabbnaa", sum := "be8f2422a889437c6ae616f8ca72f24e9fa86d000e6d82dd27b6e8423f6664aa", func := "loop.example/g03223/laws.FnExactSumSteady", spec := "fnExactSumSteady", apart := false }
def FnExactSumSteadySaid : Prop := fnExactSumSteadyRow.holds Try.pinned (OpenSpec.ofChange fnExactSumSteadySpec)

/-- ITS FALSE NEIGHBOUR: 'it returns false'. Refute it at one input. -/
def fnExactSumSteadyWrong : ChangeSpec := { name := "fnExactSumSteady", fn := fun _ => fun
  | [d] => { results := [.lit (.bool false)], args := [d] }
  | _ => none }
def FnExactSumSteadyWrongFalsely : Prop := fnExactSumSteadyRow.holds Try.pinned (OpenSpec.ofChange fnExactSumSteadyWrong)

/-- 'laws.FnExactSumDouble': WHATEVER THE INPUT: true; the input reads as it did. -/
def fnExactSumDoubleSpec : ChangeSpec := { name := "fnExactSumDouble", fn := fun _ => fun
  | [d] => { results := [.lit (.bool true)], args := [d] }
  | _ => none }
def fnExactSumDoubleRow : OpenClaim := { program := "ytpjplcbcbabbnaa", sum := "be8f2422a889437c6ae616f8ca72f24e9fa86d000e6d82dd27b6e8423f6664aa", func := "loop.example/g03223/laws.FnExactSumDouble", spec := "fnExactSumDouble", apart := false }
def FnExactSumDoubleSaid : Prop := fnExactSumDoubleRow.holds Try.pinned (OpenSpec.ofChange fnExactSumDoubleSpec)

/-- ITS FALSE NEIGHBOUR: 'it returns false'. Refute it at one input. -/
def fnExactSumDoubleWrong : ChangeSpec := { name := "fnExactSumDouble", fn := fun _ => fun
  | [d] => { results := [.lit (.bool false)], args := [d] }
  | _ => none }
def FnExactSumDoubleWrongFalsely : Prop := fnExactSumDoubleRow.holds Try.pinned (OpenSpec.ofChange fnExactSumDoubleWrong)

/-- 'laws.FnSums': WHATEVER THE INPUT: true; the input reads as it did. -/
def fnSumsSpec : ChangeSpec := { name := "fnSums", fn := fun _ => fun
  | [d] => { results := [.lit (.bool true)], args := [d] }
  | _ => none }
def fnSumsRow : OpenClaim := { program := "ytpjplcbcbabbnaa", sum := "be8f2422a889437c6ae616f8ca72f24e9fa86d000e6d82dd27b6e8423f6664aa", func := "loop.example/g03223/laws.FnSums", spec := "fnSums", recurses := true, apart := false }
def FnSumsSaid : Prop := fnSumsRow.holds Try.pinned (OpenSpec.ofChange fnSumsSpec)

/-- ITS FALSE NEIGHBOUR: 'it returns false'. Refute it at one input. -/
def fnSumsWrong : ChangeSpec := { name := "fnSums", fn := fun _ => fun
  | [d] => { results := [.lit (.bool false)], args := [d] }
  | _ => none }
def FnSumsWrongFalsely : Prop := fnSumsRow.holds Try.pinned (OpenSpec.ofChange fnSumsWrong)

/-- 'laws.FnSummed': WHATEVER THE INPUT: true; the input reads as it did. -/
def fnSummedSpec : ChangeSpec := { name := "fnSummed", fn := fun _ => fun
  | [d] => { results := [.lit (.bool true)], args := [d] }
  | _ => none }
def fnSummedRow : OpenClaim := { program := "ytpjplcbcbabbnaa", sum := "be8f2422a889437c6ae616f8ca72f24e9fa86d000e6d82dd27b6e8423f6664aa", func := "loop.example/g03223/laws.FnSummed", spec := "fnSummed", recurses := true, apart := false }
def FnSummedSaid : Prop := fnSummedRow.holds Try.pinned (OpenSpec.ofChange fnSummedSpec)

/-- ITS FALSE NEIGHBOUR: 'it returns false'. Refute it at one input. -/
def fnSummedWrong : ChangeSpec := { name := "fnSummed", fn := fun _ => fun
  | [d] => { results := [.lit (.bool false)], args := [d] }
  | _ => none }
def FnSummedWrongFalsely : Prop := fnSummedRow.holds Try.pinned (OpenSpec.ofChange fnSummedWrong)

/- THE SECOND FORM. 'bulk': how many values and letters a reading holds, each counted each time it is reached (what is shared counts as often as it is met; a slice's spare places count too). A statement '..UptoSaid' is the law's where the arguments, and the package variables that the reading takes, are together of bulk at most 1048576: NARROWER than '..Said'. Prove '..Said' where nothing that the law and all that it calls make is longer than what came in: it says more and counts as full. Else prove '..UptoSaid'. A law counts once. -/
mutual
def uptoBulk {H : Type} : DataW H → Nat
  | .lit (.string bytes) => bytes.length + 1
  | .lit _ => 1
  | .nil => 1
  | .ptr d => uptoBulk d + 1
  | .slice elems spare => uptoBulkAll elems + uptoBulkAll spare + 1
  | .agg parts => uptoBulkAll parts + 1
  | .iface _ d => uptoBulk d + 1
  | .map entries => uptoBulkEntries entries + 1
  | .held _ => 1
def uptoBulkAll {H : Type} : List (DataW H) → Nat
  | [] => 0
  | d :: r => uptoBulk d + uptoBulkAll r
def uptoBulkEntries {H : Type} : List (Lit × DataW H) → Nat
  | [] => 0
  | x :: r => uptoBulkEntry x + uptoBulkEntries r
def uptoBulkEntry {H : Type} : Lit × DataW H → Nat
  | (.string bytes, d) => bytes.length + uptoBulk d + 1
  | (_, d) => uptoBulk d + 1
 end
def uptoSmall : (H : Type) → List (DataW H) → Bool := fun _ ds => decide (uptoBulkAll ds ≤ 1048576)
def OpenSpec.upto (s : _root_.Go.ChangeSpec) : _root_.Go.OpenSpec := { _root_.Go.OpenSpec.ofChange s with cond := some uptoSmall }

/-- 'laws.FnExactSumForward', WHERE WHAT IT READS IS OF BULK AT MOST 1048576: true; the input reads as it did. -/
def fnExactSumForwardUptoRow : OpenClaim := { program := "ytpjplcbcbabbnaa", sum := "be8f2422a889437c6ae616f8ca72f24e9fa86d000e6d82dd27b6e8423f6664aa", func := "loop.example/g03223/laws.FnExactSumForward", spec := "fnExactSumForward", apart := false, narrowed := true }
def FnExactSumForwardUptoSaid : Prop := fnExactSumForwardUptoRow.holds Try.pinned (OpenSpec.upto fnExactSumForwardSpec)

/-- 'laws.FnExactSumPairs', WHERE WHAT IT READS IS OF BULK AT MOST 1048576: true; the input reads as it did. -/
def fnExactSumPairsUptoRow : OpenClaim := { program := "ytpjplcbcbabbnaa", sum := "be8f2422a889437c6ae616f8ca72f24e9fa86d000e6d82dd27b6e8423f6664aa", func := "loop.example/g03223/laws.FnExactSumPairs", spec := "fnExactSumPairs", recurses := true, apart := false, narrowed := true }
def FnExactSumPairsUptoSaid : Prop := fnExactSumPairsUptoRow.holds Try.pinned (OpenSpec.upto fnExactSumPairsSpec)

/-- 'laws.FnExactSumSteady', WHERE WHAT IT READS IS OF BULK AT MOST 1048576: true; the input reads as it did. -/
def fnExactSumSteadyUptoRow : OpenClaim := { program := "ytpjplcbcbabbnaa", sum := "be8f2422a889437c6ae616f8ca72f24e9fa86d000e6d82dd27b6e8423f6664aa", func := "loop.example/g03223/laws.FnExactSumSteady", spec := "fnExactSumSteady", apart := false, narrowed := true }
def FnExactSumSteadyUptoSaid : Prop := fnExactSumSteadyUptoRow.holds Try.pinned (OpenSpec.upto fnExactSumSteadySpec)

/-- 'laws.FnExactSumDouble', WHERE WHAT IT READS IS OF BULK AT MOST 1048576: true; the input reads as it did. -/
def fnExactSumDoubleUptoRow : OpenClaim := { program := "ytpjplcbcbabbnaa", sum := "be8f2422a889437c6ae616f8ca72f24e9fa86d000e6d82dd27b6e8423f6664aa", func := "loop.example/g03223/laws.FnExactSumDouble", spec := "fnExactSumDouble", apart := false, narrowed := true }
def FnExactSumDoubleUptoSaid : Prop := fnExactSumDoubleUptoRow.holds Try.pinned (OpenSpec.upto fnExactSumDoubleSpec)

/-- 'laws.FnSums', WHERE WHAT IT READS IS OF BULK AT MOST 1048576: true; the input reads as it did. -/
def fnSumsUptoRow : OpenClaim := { program := "ytpjplcbcbabbnaa", sum := "be8f2422a889437c6ae616f8ca72f24e9fa86d000e6d82dd27b6e8423f6664aa", func := "loop.example/g03223/laws.FnSums", spec := "fnSums", recurses := true, apart := false, narrowed := true }
def FnSumsUptoSaid : Prop := fnSumsUptoRow.holds Try.pinned (OpenSpec.upto fnSumsSpec)

/-- 'laws.FnSummed', WHERE WHAT IT READS IS OF BULK AT MOST 1048576: true; the input reads as it did. -/
def fnSummedUptoRow : OpenClaim := { program := "ytpjplcbcbabbnaa", sum := "be8f2422a889437c6ae616f8ca72f24e9fa86d000e6d82dd27b6e8423f6664aa", func := "loop.example/g03223/laws.FnSummed", spec := "fnSummed", recurses := true, apart := false, narrowed := true }
def FnSummedUptoSaid : Prop := fnSummedUptoRow.holds Try.pinned (OpenSpec.upto fnSummedSpec)

end Rows
end Go.Proofs.Ytpjplcbcbabbnaa
