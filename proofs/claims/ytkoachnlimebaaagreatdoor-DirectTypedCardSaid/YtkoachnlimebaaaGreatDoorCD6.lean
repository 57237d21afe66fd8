/- The reference of declarations: Codata, Has, Ends, Source, lists that are the same. -/
import Derived.Test.YtkoachnlimebaaaGreatDoorCD4
import Derived.Test.YtkoachnlimebaaaGreatDoorCAL17
set_option linter.unusedSimpArgs false
set_option linter.unusedVariables false
set_option maxRecDepth 20000
namespace Go.Proofs.YtkoachnlimebaaaGreatDoor
open Go.AL

def hasN (l : List DeclG) (t n : Int) : Bool := decide (t ≥ 1) && decide (t ≤ l.length) && decide (n ≥ 0) && decide (n < ((xtorsOf l t).length : Int))
/-! ### Lists that are the same -/
end Go.Proofs.YtkoachnlimebaaaGreatDoor
/- chiasmusref01.Is. -/
set_option linter.unusedSimpArgs false
set_option linter.unusedVariables false
set_option maxRecDepth 20000
namespace Go.Proofs.YtkoachnlimebaaaGreatDoor
open Go.AL

def strsAV (h : Value) (l : List (List UInt8)) : AV := .lst 1 h (l.map fun s => .v (.string (bs s)))
end Go.Proofs.YtkoachnlimebaaaGreatDoor
