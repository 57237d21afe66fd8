/-
  DERIVED. GIVEN WITH THE SEED: THE CARDS: each row of YtkoachnlimebaaaGreatDoorRows.lean that lists a variable, with what it lists TIED to the program's text (the seventh form; the later family's looks); each row that meets fmt, with fmt's text TOLD by the authors' own Lean function (tested against real Go, not proved from fmt's source: count such statements apart). THE CARD IS WHAT COUNTS. Prove the row's statement (the work); the ties are given (YtkoachnlimebaaaGreatDoorTie.lean); close each card by the builder's one call (the guide's Derived/Test/ToyasCard.lean, 'card_holds'). Laid BY PROGRAM, IN A SANDBOX (cutbox-door.mjs). By AI agents, Wed Nov 11 2026. No macro, syntax, notation, axiom, sorry.
-/
import Derived.Test.YtkoachnlimebaaaGreatDoorRows
import GoSem.ClaimSeven
namespace Go.Proofs.YtkoachnlimebaaaGreatDoor
namespace Rows

/-- THE TIED CARD OF 'chiasmuslaw05.DirectRuns'. -/
def directRunsCard : Claim7 := { stood := { row := directRunsRow, standIns := [], harness := (true, "6bbddaabd54a97d2a507970ca65b0dff358673e4f919eb94734f76216390dc8d"), looks := true }, kinds := [], alts := [], laidByText := true, laidKinds := [.data, .data, .data], laidTests := true, laidLooks := .later }
def DirectRunsCardSaid : Prop := Claim7.holds Tryz.pinned (.plain (OpenSpec.ofChange directRunsSpec)) directRunsCard

/-- THE TIED CARD OF 'chiasmuslaw05.DirectTyped'. -/
def directTypedCard : Claim7 := { stood := { row := directTypedRow, standIns := [], harness := (true, "6bbddaabd54a97d2a507970ca65b0dff358673e4f919eb94734f76216390dc8d"), looks := true }, kinds := [], alts := [], laidByText := true, laidKinds := [.data, .data, .data], laidTests := true, laidLooks := .later }
def DirectTypedCardSaid : Prop := Claim7.holds Tryz.pinned (.plain (OpenSpec.ofChange directTypedSpec)) directTypedCard

/-- THE TIED CARD OF 'chiasmuslaw15.CodeBack'. -/
def codeBackCard : Claim7 := { stood := { row := codeBackRow, standIns := [], harness := (true, "6bbddaabd54a97d2a507970ca65b0dff358673e4f919eb94734f76216390dc8d"), looks := true }, kinds := [], alts := [], laidByText := true, laidKinds := [.data, .data, .data, .data, .sentinel, .sentinel, .pinned], laidTests := true, laidLooks := .later }
def CodeBackCardSaid : Prop := Claim7.holds Tryz.pinned (.plain (OpenSpec.ofChange codeBackSpec)) codeBackCard

/-- THE TIED CARD OF 'chiasmuslaw15.CodeChecks'. -/
def codeChecksCard : Claim7 := { stood := { row := codeChecksRow, standIns := [], harness := (true, "6bbddaabd54a97d2a507970ca65b0dff358673e4f919eb94734f76216390dc8d"), looks := true }, kinds := [], alts := [], laidByText := true, laidKinds := [.data, .data, .data, .data, .sentinel, .sentinel, .pinned], laidTests := true, laidLooks := .later }
def CodeChecksCardSaid : Prop := Claim7.holds Tryz.pinned (.plain (OpenSpec.ofChange codeChecksSpec)) codeChecksCard

/-- THE TIED CARD OF 'chiasmuslaw15.CodeStrings'. -/
def codeStringsCard : Claim7 := { stood := { row := codeStringsRow, standIns := [], harness := (true, "6bbddaabd54a97d2a507970ca65b0dff358673e4f919eb94734f76216390dc8d"), looks := true }, kinds := [], alts := [], laidByText := true, laidKinds := [.data, .data, .data, .data, .sentinel, .sentinel, .pinned], laidTests := true, laidLooks := .later }
def CodeStringsCardSaid : Prop := Claim7.holds Tryz.pinned (.plain (OpenSpec.ofChange codeStringsSpec)) codeStringsCard

/-- THE TIED CARD OF 'chiasmuslaw15.CodeReaches'. -/
def codeReachesCard : Claim7 := { stood := { row := codeReachesRow, standIns := [], harness := (true, "6bbddaabd54a97d2a507970ca65b0dff358673e4f919eb94734f76216390dc8d"), looks := true }, kinds := [], alts := [], laidByText := true, laidKinds := [.data, .data, .data, .data, .sentinel, .sentinel, .pinned], laidTests := true, laidLooks := .later }
def CodeReachesCardSaid : Prop := Claim7.holds Tryz.pinned (.plain (OpenSpec.ofChange codeReachesSpec)) codeReachesCard

/-- THE TIED CARD OF 'chiasmuslaw15.CodeParses'. -/
def codeParsesCard : Claim7 := { stood := { row := codeParsesRow, standIns := [], harness := (true, "6bbddaabd54a97d2a507970ca65b0dff358673e4f919eb94734f76216390dc8d"), looks := true }, kinds := [], alts := [], laidByText := true, laidKinds := [.data, .data, .data, .data, .sentinel, .sentinel, .pinned], laidTests := true, laidLooks := .later }
def CodeParsesCardSaid : Prop := Claim7.holds Tryz.pinned (.plain (OpenSpec.ofChange codeParsesSpec)) codeParsesCard

/-- THE SECOND FORM's CARD OF 'chiasmuslaw05.DirectRuns'. -/
def directRunsUptoCard : Claim7 := { stood := { row := directRunsUptoRow, standIns := [], harness := (true, "6bbddaabd54a97d2a507970ca65b0dff358673e4f919eb94734f76216390dc8d"), looks := true }, kinds := [], alts := [], laidByText := true, laidKinds := [.data, .data, .data], laidTests := true, laidLooks := .later }
def DirectRunsUptoCardSaid : Prop := Claim7.holds Tryz.pinned (.plain (OpenSpec.upto directRunsSpec)) directRunsUptoCard

/-- THE SECOND FORM's CARD OF 'chiasmuslaw05.DirectTyped'. -/
def directTypedUptoCard : Claim7 := { stood := { row := directTypedUptoRow, standIns := [], harness := (true, "6bbddaabd54a97d2a507970ca65b0dff358673e4f919eb94734f76216390dc8d"), looks := true }, kinds := [], alts := [], laidByText := true, laidKinds := [.data, .data, .data], laidTests := true, laidLooks := .later }
def DirectTypedUptoCardSaid : Prop := Claim7.holds Tryz.pinned (.plain (OpenSpec.upto directTypedSpec)) directTypedUptoCard

/-- THE SECOND FORM's CARD OF 'chiasmuslaw15.CodeBack'. -/
def codeBackUptoCard : Claim7 := { stood := { row := codeBackUptoRow, standIns := [], harness := (true, "6bbddaabd54a97d2a507970ca65b0dff358673e4f919eb94734f76216390dc8d"), looks := true }, kinds := [], alts := [], laidByText := true, laidKinds := [.data, .data, .data, .data, .sentinel, .sentinel, .pinned], laidTests := true, laidLooks := .later }
def CodeBackUptoCardSaid : Prop := Claim7.holds Tryz.pinned (.plain (OpenSpec.upto codeBackSpec)) codeBackUptoCard

/-- THE SECOND FORM's CARD OF 'chiasmuslaw15.CodeChecks'. -/
def codeChecksUptoCard : Claim7 := { stood := { row := codeChecksUptoRow, standIns := [], harness := (true, "6bbddaabd54a97d2a507970ca65b0dff358673e4f919eb94734f76216390dc8d"), looks := true }, kinds := [], alts := [], laidByText := true, laidKinds := [.data, .data, .data, .data, .sentinel, .sentinel, .pinned], laidTests := true, laidLooks := .later }
def CodeChecksUptoCardSaid : Prop := Claim7.holds Tryz.pinned (.plain (OpenSpec.upto codeChecksSpec)) codeChecksUptoCard

/-- THE SECOND FORM's CARD OF 'chiasmuslaw15.CodeStrings'. -/
def codeStringsUptoCard : Claim7 := { stood := { row := codeStringsUptoRow, standIns := [], harness := (true, "6bbddaabd54a97d2a507970ca65b0dff358673e4f919eb94734f76216390dc8d"), looks := true }, kinds := [], alts := [], laidByText := true, laidKinds := [.data, .data, .data, .data, .sentinel, .sentinel, .pinned], laidTests := true, laidLooks := .later }
def CodeStringsUptoCardSaid : Prop := Claim7.holds Tryz.pinned (.plain (OpenSpec.upto codeStringsSpec)) codeStringsUptoCard

/-- THE SECOND FORM's CARD OF 'chiasmuslaw15.CodeReaches'. -/
def codeReachesUptoCard : Claim7 := { stood := { row := codeReachesUptoRow, standIns := [], harness := (true, "6bbddaabd54a97d2a507970ca65b0dff358673e4f919eb94734f76216390dc8d"), looks := true }, kinds := [], alts := [], laidByText := true, laidKinds := [.data, .data, .data, .data, .sentinel, .sentinel, .pinned], laidTests := true, laidLooks := .later }
def CodeReachesUptoCardSaid : Prop := Claim7.holds Tryz.pinned (.plain (OpenSpec.upto codeReachesSpec)) codeReachesUptoCard

/-- THE SECOND FORM's CARD OF 'chiasmuslaw15.CodeParses'. -/
def codeParsesUptoCard : Claim7 := { stood := { row := codeParsesUptoRow, standIns := [], harness := (true, "6bbddaabd54a97d2a507970ca65b0dff358673e4f919eb94734f76216390dc8d"), looks := true }, kinds := [], alts := [], laidByText := true, laidKinds := [.data, .data, .data, .data, .sentinel, .sentinel, .pinned], laidTests := true, laidLooks := .later }
def CodeParsesUptoCardSaid : Prop := Claim7.holds Tryz.pinned (.plain (OpenSpec.upto codeParsesSpec)) codeParsesUptoCard
end Rows
end Go.Proofs.YtkoachnlimebaaaGreatDoor
