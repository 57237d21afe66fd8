/- Free variables and labels, in plain words: validity and types depend on them alone. -/
import Derived.Test.YtkoachnlimebaaaGreatDoorCT19
set_option linter.unusedSimpArgs false
set_option linter.unusedVariables false
set_option maxRecDepth 20000
set_option maxHeartbeats 4000000
namespace Go.Proofs.YtkoachnlimebaaaGreatDoor
open Go.AL

/-! ### How many names the clauses bind -/
mutual
def nmT : TermG → Nat
  | .mk _ _ _ _ _ args _ cls => nmA args + nmC cls
def nmA : List TermG → Nat
  | [] => 0
  | a :: r => nmT a + nmA r
def nmC : List ClauseG → Nat
  | [] => 0
  | c :: r => nmB c + nmC r
def nmB : ClauseG → Nat
  | .mk _ names b => names.length + nmT b
end
end Go.Proofs.YtkoachnlimebaaaGreatDoor
