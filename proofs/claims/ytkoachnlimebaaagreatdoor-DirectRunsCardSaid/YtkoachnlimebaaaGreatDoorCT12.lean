/- The layer 'check': environments. -/
import Derived.Test.YtkoachnlimebaaaGreatDoorCT9
set_option linter.unusedSimpArgs false
set_option linter.unusedVariables false
set_option maxRecDepth 20000
set_option maxHeartbeats 4000000
namespace Go.Proofs.YtkoachnlimebaaaGreatDoor
open Go.AL

def iv (n : Int) : AV := .v (.int .i64 n)
def intsAV (h : Value) (l : List Int) : AV := .lst 1 h (l.map iv)
/-! ### Environments -/
/-! ### The checker -/
def ptr0 (b : Nat) : AV := .v (.pointer (some ⟨b, 0, none⟩))
theorem prods_len (x : XtorG) : (prodsX x).length = prodN x := by simp [prodsX, prodN]

end Go.Proofs.YtkoachnlimebaaaGreatDoor
/- The layer 'check': subterms. -/
set_option linter.unusedSimpArgs false
set_option linter.unusedVariables false
set_option maxRecDepth 20000
set_option maxHeartbeats 4000000
namespace Go.Proofs.YtkoachnlimebaaaGreatDoor
open Go.AL

/-- What a rule says of a node: its type; that it has none; that a subterm has none. -/
inductive RR where
  | good (n : Int)
  | bad
  | deep (q : List Int)
def RR.res : RR → Except (List Int) Int
  | .good n => .ok n
  | .bad => .error []
  | .deep q => .error q
end Go.Proofs.YtkoachnlimebaaaGreatDoor
/- The layer 'check': the first arguments of a term. -/
set_option linter.unusedSimpArgs false
set_option linter.unusedVariables false
set_option maxRecDepth 20000
set_option maxHeartbeats 4000000
namespace Go.Proofs.YtkoachnlimebaaaGreatDoor
open Go.AL

end Go.Proofs.YtkoachnlimebaaaGreatDoor
