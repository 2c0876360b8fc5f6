/-
  DERIVED. GIVEN WITH THE SEED: THE CARDS: each row of YthadnlekadhgpaaDoorRows.lean that lists a variable, with what it lists TIED to the program's text (the seventh form; the later family's looks); each row that meets fmt, with fmt's text TOLD by the authors' own Lean function (tested against real Go, not proved from fmt's source: count such statements apart). THE CARD IS WHAT COUNTS. Prove the row's statement (the work); the ties are given (YthadnlekadhgpaaDoorTie.lean); close each card by the builder's one call (the guide's Derived/Test/ToyasCard.lean, 'card_holds'). Laid BY PROGRAM, IN A SANDBOX (cutbox-door.mjs). By AI agents, Wed Nov 11 2026. No macro, syntax, notation, axiom, sorry.
-/
import Derived.Test.YthadnlekadhgpaaDoorRows
import GoSem.ClaimSeven
namespace Go.Proofs.YthadnlekadhgpaaDoor
namespace Rows

/-- THE TIED CARD OF 'laws.FnExactFormatSingle'. -/
def fnExactFormatSingleCard : Claim7 := { stood := { row := fnExactFormatSingleRow, standIns := [], harness := (true, "0b524a88b3a9caedf60901bf75b66208c4a782ef7a91c98817db3e1b8a827291"), looks := true }, kinds := [], alts := [], laidByText := true, laidKinds := [.data, .data, .data], laidTests := true, laidLooks := .later }
def FnExactFormatSingleCardSaid : Prop := Claim7.holds Tryd.pinned (.plain (OpenSpec.ofChange fnExactFormatSingleSpec)) fnExactFormatSingleCard

/-- THE TIED CARD OF 'laws.FnExactParseSingle'. -/
def fnExactParseSingleCard : Claim7 := { stood := { row := fnExactParseSingleRow, standIns := [], harness := (true, "0b524a88b3a9caedf60901bf75b66208c4a782ef7a91c98817db3e1b8a827291"), looks := true }, kinds := [], alts := [], laidByText := true, laidKinds := [.data, .data, .data, .sentinel, .sentinel], laidTests := true, laidLooks := .later }
def FnExactParseSingleCardSaid : Prop := Claim7.holds Tryd.pinned (.plain (OpenSpec.ofChange fnExactParseSingleSpec)) fnExactParseSingleCard

/-- THE TIED CARD OF 'laws.FnSteps'. -/
def fnStepsCard : Claim7 := { stood := { row := fnStepsRow, standIns := [], harness := (true, "0b524a88b3a9caedf60901bf75b66208c4a782ef7a91c98817db3e1b8a827291"), looks := true }, kinds := [], alts := [], laidByText := true, laidKinds := [.data, .data, .data, .sentinel, .sentinel], laidTests := true, laidLooks := .later }
def FnStepsCardSaid : Prop := Claim7.holds Tryd.pinned (.plain (OpenSpec.ofChange fnStepsSpec)) fnStepsCard

/-- THE SECOND FORM's CARD OF 'laws.FnExactFormatSingle'. -/
def fnExactFormatSingleUptoCard : Claim7 := { stood := { row := fnExactFormatSingleUptoRow, standIns := [], harness := (true, "0b524a88b3a9caedf60901bf75b66208c4a782ef7a91c98817db3e1b8a827291"), looks := true }, kinds := [], alts := [], laidByText := true, laidKinds := [.data, .data, .data], laidTests := true, laidLooks := .later }
def FnExactFormatSingleUptoCardSaid : Prop := Claim7.holds Tryd.pinned (.plain (OpenSpec.upto fnExactFormatSingleSpec)) fnExactFormatSingleUptoCard

/-- THE SECOND FORM's CARD OF 'laws.FnExactParseSingle'. -/
def fnExactParseSingleUptoCard : Claim7 := { stood := { row := fnExactParseSingleUptoRow, standIns := [], harness := (true, "0b524a88b3a9caedf60901bf75b66208c4a782ef7a91c98817db3e1b8a827291"), looks := true }, kinds := [], alts := [], laidByText := true, laidKinds := [.data, .data, .data, .sentinel, .sentinel], laidTests := true, laidLooks := .later }
def FnExactParseSingleUptoCardSaid : Prop := Claim7.holds Tryd.pinned (.plain (OpenSpec.upto fnExactParseSingleSpec)) fnExactParseSingleUptoCard

/-- THE SECOND FORM's CARD OF 'laws.FnSteps'. -/
def fnStepsUptoCard : Claim7 := { stood := { row := fnStepsUptoRow, standIns := [], harness := (true, "0b524a88b3a9caedf60901bf75b66208c4a782ef7a91c98817db3e1b8a827291"), looks := true }, kinds := [], alts := [], laidByText := true, laidKinds := [.data, .data, .data, .sentinel, .sentinel], laidTests := true, laidLooks := .later }
def FnStepsUptoCardSaid : Prop := Claim7.holds Tryd.pinned (.plain (OpenSpec.upto fnStepsSpec)) fnStepsUptoCard
end Rows
end Go.Proofs.YthadnlekadhgpaaDoor
