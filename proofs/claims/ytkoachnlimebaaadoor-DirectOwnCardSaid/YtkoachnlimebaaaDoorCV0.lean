/- The layer 'check': environments. -/
import Derived.Test.YtkoachnlimebaaaDoorCT9
set_option linter.unusedSimpArgs false
set_option linter.unusedVariables false
set_option maxRecDepth 20000
set_option maxHeartbeats 4000000
namespace Go.Proofs.YtkoachnlimebaaaDoor
open Go.AL

def iv (n : Int) : AV := .v (.int .i64 n)
def intsAV (h : Value) (l : List Int) : AV := .lst 1 h (l.map iv)
theorem ones_int (l : List Int) : ((l.map iv).flatMap AV.cells).all AV.one = true := by
  induction l with
  | nil => rfl
  | cons a l ih => rw [List.map_cons, List.flatMap_cons, List.all_append, ih]; rfl
/-! ### Environments -/
/-! ### The checker -/
def ptr0 (b : Nat) : AV := .v (.pointer (some ⟨b, 0, none⟩))
end Go.Proofs.YtkoachnlimebaaaDoor
/- Plain facts about valid terms, for the seat without the checker. -/
set_option linter.unusedSimpArgs false
set_option linter.unusedVariables false
set_option maxRecDepth 20000
set_option maxHeartbeats 4000000
namespace Go.Proofs.YtkoachnlimebaaaDoor
open Go.AL

end Go.Proofs.YtkoachnlimebaaaDoor
