/-
  No cell of these rows narrows 'for every input' (looked for: loops, veiled, ifaces, maps, wideKeys, modest, calm, conditions, laid).
  DERIVED. THE GIVEN ROWS OF THIS SEAT. 12 by the template 'for every input the law returns true; each argument reads behind the call as it read before'; 0 by the template 'total and deterministic' (their statements: YtdkodeelddjimaaTotals.lean).
  GIVEN WITH THE SEED: the statements are not yours to turn. If you find one false, say at which input.
  Laid BY PROGRAM, IN A SANDBOX (cutbox-rows.mjs): the forced cells as the released guide's own fill.sh prints them over the translation 9eae88edfa7a0b29… (all of the seat's roots in one cut). By AI agents, Wed Nov 11 2026. No macro, syntax, notation, axiom, sorry.
-/
import Derived.Test.YtdkodeelddjimaaChecked
import GoSem.Claim
import GoSem.ClaimJoined
import GoSem.ClaimMapViews
import Derived.JoinedTies
import Derived.KernelRfl
namespace Go.Proofs.Ytdkodeelddjimaa
/- THE CELL 'sum', in the pinned program and in every row, IS THE sha256 OF THE DUMP (.gsa) THAT YtdkodeelddjimaaProg.lean LOADS. Nothing in Lean hashes anything: it is a label: what it is worth is what the hold of that sum in a sandbox is worth. -/
noncomputable def Try.pinned : Pinned := { name := "ytdkodeelddjimaa", sum := "9eae88edfa7a0b290ba5ab10dbf395c15037706f5c44136c06a2fda7059c72be", checked := Try.checked }
namespace Rows
def none {H : Type} : Left H := { results := [], args := [] }

/-- 'laws.FnExactConstants': WHATEVER THE INPUT: true; the input reads as it did. -/
def fnExactConstantsSpec : ChangeSpec := { name := "fnExactConstants", fn := fun _ => fun
  | [] => { results := [.lit (.bool true)], args := [] }
  | _ => none }
def fnExactConstantsRow : OpenClaim := { program := "ytdkodeelddjimaa", sum := "9eae88edfa7a0b290ba5ab10dbf395c15037706f5c44136c06a2fda7059c72be", func := "loop.example/g03223/laws.FnExactConstants", spec := "fnExactConstants", apart := false }
def FnExactConstantsSaid : Prop := fnExactConstantsRow.holds Try.pinned (OpenSpec.ofChange fnExactConstantsSpec)

/-- ITS FALSE NEIGHBOUR: 'it returns false'. Refute it at one input. -/
def fnExactConstantsWrong : ChangeSpec := { name := "fnExactConstants", fn := fun _ => fun
  | [] => { results := [.lit (.bool false)], args := [] }
  | _ => none }
def FnExactConstantsWrongFalsely : Prop := fnExactConstantsRow.holds Try.pinned (OpenSpec.ofChange fnExactConstantsWrong)

/-- 'laws.FnExactLosesHalf': WHATEVER THE INPUT: true; the input reads as it did. -/
def fnExactLosesHalfSpec : ChangeSpec := { name := "fnExactLosesHalf", fn := fun _ => fun
  | [d] => { results := [.lit (.bool true)], args := [d] }
  | _ => none }
def fnExactLosesHalfRow : OpenClaim := { program := "ytdkodeelddjimaa", sum := "9eae88edfa7a0b290ba5ab10dbf395c15037706f5c44136c06a2fda7059c72be", func := "loop.example/g03223/laws.FnExactLosesHalf", spec := "fnExactLosesHalf", apart := false }
def FnExactLosesHalfSaid : Prop := fnExactLosesHalfRow.holds Try.pinned (OpenSpec.ofChange fnExactLosesHalfSpec)

/-- ITS FALSE NEIGHBOUR: 'it returns false'. Refute it at one input. -/
def fnExactLosesHalfWrong : ChangeSpec := { name := "fnExactLosesHalf", fn := fun _ => fun
  | [d] => { results := [.lit (.bool false)], args := [d] }
  | _ => none }
def FnExactLosesHalfWrongFalsely : Prop := fnExactLosesHalfRow.holds Try.pinned (OpenSpec.ofChange fnExactLosesHalfWrong)

/-- 'laws.FnExactIsSubnormal': WHATEVER THE INPUT: true; the input reads as it did. -/
def fnExactIsSubnormalSpec : ChangeSpec := { name := "fnExactIsSubnormal", fn := fun _ => fun
  | [d] => { results := [.lit (.bool true)], args := [d] }
  | _ => none }
def fnExactIsSubnormalRow : OpenClaim := { program := "ytdkodeelddjimaa", sum := "9eae88edfa7a0b290ba5ab10dbf395c15037706f5c44136c06a2fda7059c72be", func := "loop.example/g03223/laws.FnExactIsSubnormal", spec := "fnExactIsSubnormal", inPlace := ["math.Float32bits"], apart := false }
def FnExactIsSubnormalSaid : Prop := fnExactIsSubnormalRow.holds Try.pinned (OpenSpec.ofChange fnExactIsSubnormalSpec)

/-- ITS FALSE NEIGHBOUR: 'it returns false'. Refute it at one input. -/
def fnExactIsSubnormalWrong : ChangeSpec := { name := "fnExactIsSubnormal", fn := fun _ => fun
  | [d] => { results := [.lit (.bool false)], args := [d] }
  | _ => none }
def FnExactIsSubnormalWrongFalsely : Prop := fnExactIsSubnormalRow.holds Try.pinned (OpenSpec.ofChange fnExactIsSubnormalWrong)

/-- 'laws.FnExactTwoSum': WHATEVER THE INPUT: true; the input reads as it did. -/
def fnExactTwoSumSpec : ChangeSpec := { name := "fnExactTwoSum", fn := fun _ => fun
  | [d1, d2] => { results := [.lit (.bool true)], args := [d1, d2] }
  | _ => none }
def fnExactTwoSumRow : OpenClaim := { program := "ytdkodeelddjimaa", sum := "9eae88edfa7a0b290ba5ab10dbf395c15037706f5c44136c06a2fda7059c72be", func := "loop.example/g03223/laws.FnExactTwoSum", spec := "fnExactTwoSum", apart := false }
def FnExactTwoSumSaid : Prop := fnExactTwoSumRow.holds Try.pinned (OpenSpec.ofChange fnExactTwoSumSpec)

/-- ITS FALSE NEIGHBOUR: 'it returns false'. Refute it at one input. -/
def fnExactTwoSumWrong : ChangeSpec := { name := "fnExactTwoSum", fn := fun _ => fun
  | [d1, d2] => { results := [.lit (.bool false)], args := [d1, d2] }
  | _ => none }
def FnExactTwoSumWrongFalsely : Prop := fnExactTwoSumRow.holds Try.pinned (OpenSpec.ofChange fnExactTwoSumWrong)

/-- 'laws.FnExactHalveSingle': WHATEVER THE INPUT: true; the input reads as it did. -/
def fnExactHalveSingleSpec : ChangeSpec := { name := "fnExactHalveSingle", fn := fun _ => fun
  | [d1, d2] => { results := [.lit (.bool true)], args := [d1, d2] }
  | _ => none }
def fnExactHalveSingleRow : OpenClaim := { program := "ytdkodeelddjimaa", sum := "9eae88edfa7a0b290ba5ab10dbf395c15037706f5c44136c06a2fda7059c72be", func := "loop.example/g03223/laws.FnExactHalveSingle", spec := "fnExactHalveSingle", apart := false }
def FnExactHalveSingleSaid : Prop := fnExactHalveSingleRow.holds Try.pinned (OpenSpec.ofChange fnExactHalveSingleSpec)

/-- ITS FALSE NEIGHBOUR: 'it returns false'. Refute it at one input. -/
def fnExactHalveSingleWrong : ChangeSpec := { name := "fnExactHalveSingle", fn := fun _ => fun
  | [d1, d2] => { results := [.lit (.bool false)], args := [d1, d2] }
  | _ => none }
def FnExactHalveSingleWrongFalsely : Prop := fnExactHalveSingleRow.holds Try.pinned (OpenSpec.ofChange fnExactHalveSingleWrong)

/-- 'laws.FnExactFlushSmall': WHATEVER THE INPUT: true; the input reads as it did. -/
def fnExactFlushSmallSpec : ChangeSpec := { name := "fnExactFlushSmall", fn := fun _ => fun
  | [d] => { results := [.lit (.bool true)], args := [d] }
  | _ => none }
def fnExactFlushSmallRow : OpenClaim := { program := "ytdkodeelddjimaa", sum := "9eae88edfa7a0b290ba5ab10dbf395c15037706f5c44136c06a2fda7059c72be", func := "loop.example/g03223/laws.FnExactFlushSmall", spec := "fnExactFlushSmall", inPlace := ["math.Float32bits", "math.Float32frombits"], apart := false }
def FnExactFlushSmallSaid : Prop := fnExactFlushSmallRow.holds Try.pinned (OpenSpec.ofChange fnExactFlushSmallSpec)

/-- ITS FALSE NEIGHBOUR: 'it returns false'. Refute it at one input. -/
def fnExactFlushSmallWrong : ChangeSpec := { name := "fnExactFlushSmall", fn := fun _ => fun
  | [d] => { results := [.lit (.bool false)], args := [d] }
  | _ => none }
def FnExactFlushSmallWrongFalsely : Prop := fnExactFlushSmallRow.holds Try.pinned (OpenSpec.ofChange fnExactFlushSmallWrong)

/-- 'laws.FnExactFromSteps': WHATEVER THE INPUT: true; the input reads as it did. -/
def fnExactFromStepsSpec : ChangeSpec := { name := "fnExactFromSteps", fn := fun _ => fun
  | [d] => { results := [.lit (.bool true)], args := [d] }
  | _ => none }
def fnExactFromStepsRow : OpenClaim := { program := "ytdkodeelddjimaa", sum := "9eae88edfa7a0b290ba5ab10dbf395c15037706f5c44136c06a2fda7059c72be", func := "loop.example/g03223/laws.FnExactFromSteps", spec := "fnExactFromSteps", inPlace := ["math.Float32frombits"], apart := false }
def FnExactFromStepsSaid : Prop := fnExactFromStepsRow.holds Try.pinned (OpenSpec.ofChange fnExactFromStepsSpec)

/-- ITS FALSE NEIGHBOUR: 'it returns false'. Refute it at one input. -/
def fnExactFromStepsWrong : ChangeSpec := { name := "fnExactFromSteps", fn := fun _ => fun
  | [d] => { results := [.lit (.bool false)], args := [d] }
  | _ => none }
def FnExactFromStepsWrongFalsely : Prop := fnExactFromStepsRow.holds Try.pinned (OpenSpec.ofChange fnExactFromStepsWrong)

/-- 'laws.FnExactStepsOf': WHATEVER THE INPUT: true; the input reads as it did. -/
def fnExactStepsOfSpec : ChangeSpec := { name := "fnExactStepsOf", fn := fun _ => fun
  | [d] => { results := [.lit (.bool true)], args := [d] }
  | _ => none }
def fnExactStepsOfRow : OpenClaim := { program := "ytdkodeelddjimaa", sum := "9eae88edfa7a0b290ba5ab10dbf395c15037706f5c44136c06a2fda7059c72be", func := "loop.example/g03223/laws.FnExactStepsOf", spec := "fnExactStepsOf", inPlace := ["math.Float32bits", "math.Float64bits"], apart := false }
def FnExactStepsOfSaid : Prop := fnExactStepsOfRow.holds Try.pinned (OpenSpec.ofChange fnExactStepsOfSpec)

/-- ITS FALSE NEIGHBOUR: 'it returns false'. Refute it at one input. -/
def fnExactStepsOfWrong : ChangeSpec := { name := "fnExactStepsOf", fn := fun _ => fun
  | [d] => { results := [.lit (.bool false)], args := [d] }
  | _ => none }
def FnExactStepsOfWrongFalsely : Prop := fnExactStepsOfRow.holds Try.pinned (OpenSpec.ofChange fnExactStepsOfWrong)

/-- 'laws.FnExactStepsBetween': WHATEVER THE INPUT: true; the input reads as it did. -/
def fnExactStepsBetweenSpec : ChangeSpec := { name := "fnExactStepsBetween", fn := fun _ => fun
  | [d1, d2] => { results := [.lit (.bool true)], args := [d1, d2] }
  | _ => none }
def fnExactStepsBetweenRow : OpenClaim := { program := "ytdkodeelddjimaa", sum := "9eae88edfa7a0b290ba5ab10dbf395c15037706f5c44136c06a2fda7059c72be", func := "loop.example/g03223/laws.FnExactStepsBetween", spec := "fnExactStepsBetween", inPlace := ["math.Float32bits", "math.Float64bits"], apart := false }
def FnExactStepsBetweenSaid : Prop := fnExactStepsBetweenRow.holds Try.pinned (OpenSpec.ofChange fnExactStepsBetweenSpec)

/-- ITS FALSE NEIGHBOUR: 'it returns false'. Refute it at one input. -/
def fnExactStepsBetweenWrong : ChangeSpec := { name := "fnExactStepsBetween", fn := fun _ => fun
  | [d1, d2] => { results := [.lit (.bool false)], args := [d1, d2] }
  | _ => none }
def FnExactStepsBetweenWrongFalsely : Prop := fnExactStepsBetweenRow.holds Try.pinned (OpenSpec.ofChange fnExactStepsBetweenWrong)

/-- 'laws.FnExactNextDown': WHATEVER THE INPUT: true; the input reads as it did. -/
def fnExactNextDownSpec : ChangeSpec := { name := "fnExactNextDown", fn := fun _ => fun
  | [d] => { results := [.lit (.bool true)], args := [d] }
  | _ => none }
def fnExactNextDownRow : OpenClaim := { program := "ytdkodeelddjimaa", sum := "9eae88edfa7a0b290ba5ab10dbf395c15037706f5c44136c06a2fda7059c72be", func := "loop.example/g03223/laws.FnExactNextDown", spec := "fnExactNextDown", inPlace := ["math.Float32bits", "math.Float64bits", "math.Float32frombits"], apart := false }
def FnExactNextDownSaid : Prop := fnExactNextDownRow.holds Try.pinned (OpenSpec.ofChange fnExactNextDownSpec)

/-- ITS FALSE NEIGHBOUR: 'it returns false'. Refute it at one input. -/
def fnExactNextDownWrong : ChangeSpec := { name := "fnExactNextDown", fn := fun _ => fun
  | [d] => { results := [.lit (.bool false)], args := [d] }
  | _ => none }
def FnExactNextDownWrongFalsely : Prop := fnExactNextDownRow.holds Try.pinned (OpenSpec.ofChange fnExactNextDownWrong)

/-- 'laws.FnExactNextUp': WHATEVER THE INPUT: true; the input reads as it did. -/
def fnExactNextUpSpec : ChangeSpec := { name := "fnExactNextUp", fn := fun _ => fun
  | [d] => { results := [.lit (.bool true)], args := [d] }
  | _ => none }
def fnExactNextUpRow : OpenClaim := { program := "ytdkodeelddjimaa", sum := "9eae88edfa7a0b290ba5ab10dbf395c15037706f5c44136c06a2fda7059c72be", func := "loop.example/g03223/laws.FnExactNextUp", spec := "fnExactNextUp", inPlace := ["math.Float32bits", "math.Float64bits", "math.Float32frombits"], apart := false }
def FnExactNextUpSaid : Prop := fnExactNextUpRow.holds Try.pinned (OpenSpec.ofChange fnExactNextUpSpec)

/-- ITS FALSE NEIGHBOUR: 'it returns false'. Refute it at one input. -/
def fnExactNextUpWrong : ChangeSpec := { name := "fnExactNextUp", fn := fun _ => fun
  | [d] => { results := [.lit (.bool false)], args := [d] }
  | _ => none }
def FnExactNextUpWrongFalsely : Prop := fnExactNextUpRow.holds Try.pinned (OpenSpec.ofChange fnExactNextUpWrong)

/-- 'laws.FnSmall': WHATEVER THE INPUT: true; the input reads as it did. -/
def fnSmallSpec : ChangeSpec := { name := "fnSmall", fn := fun _ => fun
  | [d] => { results := [.lit (.bool true)], args := [d] }
  | _ => none }
def fnSmallRow : OpenClaim := { program := "ytdkodeelddjimaa", sum := "9eae88edfa7a0b290ba5ab10dbf395c15037706f5c44136c06a2fda7059c72be", func := "loop.example/g03223/laws.FnSmall", spec := "fnSmall", inPlace := ["math.Float32bits", "math.Float32frombits"], apart := false }
def FnSmallSaid : Prop := fnSmallRow.holds Try.pinned (OpenSpec.ofChange fnSmallSpec)

/-- ITS FALSE NEIGHBOUR: 'it returns false'. Refute it at one input. -/
def fnSmallWrong : ChangeSpec := { name := "fnSmall", fn := fun _ => fun
  | [d] => { results := [.lit (.bool false)], args := [d] }
  | _ => none }
def FnSmallWrongFalsely : Prop := fnSmallRow.holds Try.pinned (OpenSpec.ofChange fnSmallWrong)

/- THE SECOND FORM. 'bulk': how many values and letters a reading holds, each counted each time it is reached (what is shared counts as often as it is met; a slice's spare places count too). A statement '..UptoSaid' is the law's where the arguments, and the package variables that the reading takes, are together of bulk at most 1048576: NARROWER than '..Said'. Prove '..Said' where nothing that the law and all that it calls make is longer than what came in: it says more and counts as full. Else prove '..UptoSaid'. A law counts once. -/
mutual
def uptoBulk {H : Type} : DataW H → Nat
  | .lit (.string bytes) => bytes.length + 1
  | .lit _ => 1
  | .nil => 1
  | .ptr d => uptoBulk d + 1
  | .slice elems spare => uptoBulkAll elems + uptoBulkAll spare + 1
  | .agg parts => uptoBulkAll parts + 1
  | .iface _ d => uptoBulk d + 1
  | .map entries => uptoBulkEntries entries + 1
  | .held _ => 1
def uptoBulkAll {H : Type} : List (DataW H) → Nat
  | [] => 0
  | d :: r => uptoBulk d + uptoBulkAll r
def uptoBulkEntries {H : Type} : List (Lit × DataW H) → Nat
  | [] => 0
  | x :: r => uptoBulkEntry x + uptoBulkEntries r
def uptoBulkEntry {H : Type} : Lit × DataW H → Nat
  | (.string bytes, d) => bytes.length + uptoBulk d + 1
  | (_, d) => uptoBulk d + 1
 end
def uptoSmall : (H : Type) → List (DataW H) → Bool := fun _ ds => decide (uptoBulkAll ds ≤ 1048576)
def OpenSpec.upto (s : _root_.Go.ChangeSpec) : _root_.Go.OpenSpec := { _root_.Go.OpenSpec.ofChange s with cond := some uptoSmall }

/-- 'laws.FnExactConstants', WHERE WHAT IT READS IS OF BULK AT MOST 1048576: true; the input reads as it did. -/
def fnExactConstantsUptoRow : OpenClaim := { program := "ytdkodeelddjimaa", sum := "9eae88edfa7a0b290ba5ab10dbf395c15037706f5c44136c06a2fda7059c72be", func := "loop.example/g03223/laws.FnExactConstants", spec := "fnExactConstants", apart := false, narrowed := true }
def FnExactConstantsUptoSaid : Prop := fnExactConstantsUptoRow.holds Try.pinned (OpenSpec.upto fnExactConstantsSpec)

/-- 'laws.FnExactLosesHalf', WHERE WHAT IT READS IS OF BULK AT MOST 1048576: true; the input reads as it did. -/
def fnExactLosesHalfUptoRow : OpenClaim := { program := "ytdkodeelddjimaa", sum := "9eae88edfa7a0b290ba5ab10dbf395c15037706f5c44136c06a2fda7059c72be", func := "loop.example/g03223/laws.FnExactLosesHalf", spec := "fnExactLosesHalf", apart := false, narrowed := true }
def FnExactLosesHalfUptoSaid : Prop := fnExactLosesHalfUptoRow.holds Try.pinned (OpenSpec.upto fnExactLosesHalfSpec)

/-- 'laws.FnExactIsSubnormal', WHERE WHAT IT READS IS OF BULK AT MOST 1048576: true; the input reads as it did. -/
def fnExactIsSubnormalUptoRow : OpenClaim := { program := "ytdkodeelddjimaa", sum := "9eae88edfa7a0b290ba5ab10dbf395c15037706f5c44136c06a2fda7059c72be", func := "loop.example/g03223/laws.FnExactIsSubnormal", spec := "fnExactIsSubnormal", inPlace := ["math.Float32bits"], apart := false, narrowed := true }
def FnExactIsSubnormalUptoSaid : Prop := fnExactIsSubnormalUptoRow.holds Try.pinned (OpenSpec.upto fnExactIsSubnormalSpec)

/-- 'laws.FnExactTwoSum', WHERE WHAT IT READS IS OF BULK AT MOST 1048576: true; the input reads as it did. -/
def fnExactTwoSumUptoRow : OpenClaim := { program := "ytdkodeelddjimaa", sum := "9eae88edfa7a0b290ba5ab10dbf395c15037706f5c44136c06a2fda7059c72be", func := "loop.example/g03223/laws.FnExactTwoSum", spec := "fnExactTwoSum", apart := false, narrowed := true }
def FnExactTwoSumUptoSaid : Prop := fnExactTwoSumUptoRow.holds Try.pinned (OpenSpec.upto fnExactTwoSumSpec)

/-- 'laws.FnExactHalveSingle', WHERE WHAT IT READS IS OF BULK AT MOST 1048576: true; the input reads as it did. -/
def fnExactHalveSingleUptoRow : OpenClaim := { program := "ytdkodeelddjimaa", sum := "9eae88edfa7a0b290ba5ab10dbf395c15037706f5c44136c06a2fda7059c72be", func := "loop.example/g03223/laws.FnExactHalveSingle", spec := "fnExactHalveSingle", apart := false, narrowed := true }
def FnExactHalveSingleUptoSaid : Prop := fnExactHalveSingleUptoRow.holds Try.pinned (OpenSpec.upto fnExactHalveSingleSpec)

/-- 'laws.FnExactFlushSmall', WHERE WHAT IT READS IS OF BULK AT MOST 1048576: true; the input reads as it did. -/
def fnExactFlushSmallUptoRow : OpenClaim := { program := "ytdkodeelddjimaa", sum := "9eae88edfa7a0b290ba5ab10dbf395c15037706f5c44136c06a2fda7059c72be", func := "loop.example/g03223/laws.FnExactFlushSmall", spec := "fnExactFlushSmall", inPlace := ["math.Float32bits", "math.Float32frombits"], apart := false, narrowed := true }
def FnExactFlushSmallUptoSaid : Prop := fnExactFlushSmallUptoRow.holds Try.pinned (OpenSpec.upto fnExactFlushSmallSpec)

/-- 'laws.FnExactFromSteps', WHERE WHAT IT READS IS OF BULK AT MOST 1048576: true; the input reads as it did. -/
def fnExactFromStepsUptoRow : OpenClaim := { program := "ytdkodeelddjimaa", sum := "9eae88edfa7a0b290ba5ab10dbf395c15037706f5c44136c06a2fda7059c72be", func := "loop.example/g03223/laws.FnExactFromSteps", spec := "fnExactFromSteps", inPlace := ["math.Float32frombits"], apart := false, narrowed := true }
def FnExactFromStepsUptoSaid : Prop := fnExactFromStepsUptoRow.holds Try.pinned (OpenSpec.upto fnExactFromStepsSpec)

/-- 'laws.FnExactStepsOf', WHERE WHAT IT READS IS OF BULK AT MOST 1048576: true; the input reads as it did. -/
def fnExactStepsOfUptoRow : OpenClaim := { program := "ytdkodeelddjimaa", sum := "9eae88edfa7a0b290ba5ab10dbf395c15037706f5c44136c06a2fda7059c72be", func := "loop.example/g03223/laws.FnExactStepsOf", spec := "fnExactStepsOf", inPlace := ["math.Float32bits", "math.Float64bits"], apart := false, narrowed := true }
def FnExactStepsOfUptoSaid : Prop := fnExactStepsOfUptoRow.holds Try.pinned (OpenSpec.upto fnExactStepsOfSpec)

/-- 'laws.FnExactStepsBetween', WHERE WHAT IT READS IS OF BULK AT MOST 1048576: true; the input reads as it did. -/
def fnExactStepsBetweenUptoRow : OpenClaim := { program := "ytdkodeelddjimaa", sum := "9eae88edfa7a0b290ba5ab10dbf395c15037706f5c44136c06a2fda7059c72be", func := "loop.example/g03223/laws.FnExactStepsBetween", spec := "fnExactStepsBetween", inPlace := ["math.Float32bits", "math.Float64bits"], apart := false, narrowed := true }
def FnExactStepsBetweenUptoSaid : Prop := fnExactStepsBetweenUptoRow.holds Try.pinned (OpenSpec.upto fnExactStepsBetweenSpec)

/-- 'laws.FnExactNextDown', WHERE WHAT IT READS IS OF BULK AT MOST 1048576: true; the input reads as it did. -/
def fnExactNextDownUptoRow : OpenClaim := { program := "ytdkodeelddjimaa", sum := "9eae88edfa7a0b290ba5ab10dbf395c15037706f5c44136c06a2fda7059c72be", func := "loop.example/g03223/laws.FnExactNextDown", spec := "fnExactNextDown", inPlace := ["math.Float32bits", "math.Float64bits", "math.Float32frombits"], apart := false, narrowed := true }
def FnExactNextDownUptoSaid : Prop := fnExactNextDownUptoRow.holds Try.pinned (OpenSpec.upto fnExactNextDownSpec)

/-- 'laws.FnExactNextUp', WHERE WHAT IT READS IS OF BULK AT MOST 1048576: true; the input reads as it did. -/
def fnExactNextUpUptoRow : OpenClaim := { program := "ytdkodeelddjimaa", sum := "9eae88edfa7a0b290ba5ab10dbf395c15037706f5c44136c06a2fda7059c72be", func := "loop.example/g03223/laws.FnExactNextUp", spec := "fnExactNextUp", inPlace := ["math.Float32bits", "math.Float64bits", "math.Float32frombits"], apart := false, narrowed := true }
def FnExactNextUpUptoSaid : Prop := fnExactNextUpUptoRow.holds Try.pinned (OpenSpec.upto fnExactNextUpSpec)

/-- 'laws.FnSmall', WHERE WHAT IT READS IS OF BULK AT MOST 1048576: true; the input reads as it did. -/
def fnSmallUptoRow : OpenClaim := { program := "ytdkodeelddjimaa", sum := "9eae88edfa7a0b290ba5ab10dbf395c15037706f5c44136c06a2fda7059c72be", func := "loop.example/g03223/laws.FnSmall", spec := "fnSmall", inPlace := ["math.Float32bits", "math.Float32frombits"], apart := false, narrowed := true }
def FnSmallUptoSaid : Prop := fnSmallUptoRow.holds Try.pinned (OpenSpec.upto fnSmallSpec)

end Rows
end Go.Proofs.Ytdkodeelddjimaa
