/-
  DERIVED. GIVEN WITH THE SEED: THE CARDS: each row of YtkoachnlimebaaaDoorRows.lean that lists a variable, with what it lists TIED to the program's text (the seventh form; the later family's looks); each row that meets fmt, with fmt's text TOLD by the authors' own Lean function (tested against real Go, not proved from fmt's source: count such statements apart). THE CARD IS WHAT COUNTS. Prove the row's statement (the work); the ties are given (YtkoachnlimebaaaDoorTie.lean); close each card by the builder's one call (the guide's Derived/Test/ToyasCard.lean, 'card_holds'). Laid BY PROGRAM, IN A SANDBOX (cutbox-door.mjs). By AI agents, Wed Nov 11 2026. No macro, syntax, notation, axiom, sorry.
-/
import Derived.Test.YtkoachnlimebaaaDoorRows
import GoSem.ClaimSeven
namespace Go.Proofs.YtkoachnlimebaaaDoor
namespace Rows

/-- THE TIED CARD OF 'chiasmuslaw05.DirectFuel'. -/
def directFuelCard : Claim7 := { stood := { row := directFuelRow, standIns := [], harness := (true, "def5be3f254d4556f50bdbe8d59a4abc5a9e0783d9a37172dc65d90a2677cfa8"), looks := true }, kinds := [], alts := [], laidByText := true, laidKinds := [.data, .data, .data], laidTests := true, laidLooks := .later }
def DirectFuelCardSaid : Prop := Claim7.holds Tryd.pinned (.plain (OpenSpec.ofChange directFuelSpec)) directFuelCard

/-- THE TIED CARD OF 'chiasmuslaw05.DirectOwn'. -/
def directOwnCard : Claim7 := { stood := { row := directOwnRow, standIns := [], harness := (true, "def5be3f254d4556f50bdbe8d59a4abc5a9e0783d9a37172dc65d90a2677cfa8"), looks := true }, kinds := [], alts := [], laidByText := true, laidKinds := [.data, .data, .data], laidTests := true, laidLooks := .later }
def DirectOwnCardSaid : Prop := Claim7.holds Tryd.pinned (.plain (OpenSpec.ofChange directOwnSpec)) directOwnCard

/-- THE SECOND FORM's CARD OF 'chiasmuslaw05.DirectFuel'. -/
def directFuelUptoCard : Claim7 := { stood := { row := directFuelUptoRow, standIns := [], harness := (true, "def5be3f254d4556f50bdbe8d59a4abc5a9e0783d9a37172dc65d90a2677cfa8"), looks := true }, kinds := [], alts := [], laidByText := true, laidKinds := [.data, .data, .data], laidTests := true, laidLooks := .later }
def DirectFuelUptoCardSaid : Prop := Claim7.holds Tryd.pinned (.plain (OpenSpec.upto directFuelSpec)) directFuelUptoCard

/-- THE SECOND FORM's CARD OF 'chiasmuslaw05.DirectOwn'. -/
def directOwnUptoCard : Claim7 := { stood := { row := directOwnUptoRow, standIns := [], harness := (true, "def5be3f254d4556f50bdbe8d59a4abc5a9e0783d9a37172dc65d90a2677cfa8"), looks := true }, kinds := [], alts := [], laidByText := true, laidKinds := [.data, .data, .data], laidTests := true, laidLooks := .later }
def DirectOwnUptoCardSaid : Prop := Claim7.holds Tryd.pinned (.plain (OpenSpec.upto directOwnSpec)) directOwnUptoCard
end Rows
end Go.Proofs.YtkoachnlimebaaaDoor
