/- The layer 'check': typ. -/
import Derived.Test.YtkoachnlimebaaaGreatDoorCT15
import Derived.Test.YtkoachnlimebaaaGreatDoorCAL28
set_option linter.unusedSimpArgs false
set_option linter.unusedVariables false
set_option maxRecDepth 20000
set_option maxHeartbeats 4000000
namespace Go.Proofs.YtkoachnlimebaaaGreatDoor
open Go.AL

end Go.Proofs.YtkoachnlimebaaaGreatDoor
/- The layer 'check': typ of all terms; what valid programs give. -/
set_option linter.unusedSimpArgs false
set_option linter.unusedVariables false
set_option maxRecDepth 20000
set_option maxHeartbeats 4000000
namespace Go.Proofs.YtkoachnlimebaaaGreatDoor
open Go.AL

end Go.Proofs.YtkoachnlimebaaaGreatDoor
/- The layer 'check': params, fault, Typed, Check, Fault. -/
set_option linter.unusedSimpArgs false
set_option linter.unusedVariables false
set_option maxRecDepth 20000
set_option maxHeartbeats 4000000
namespace Go.Proofs.YtkoachnlimebaaaGreatDoor
open Go.AL

end Go.Proofs.YtkoachnlimebaaaGreatDoor
/- The layer 'check': Type. -/
set_option linter.unusedSimpArgs false
set_option linter.unusedVariables false
set_option maxRecDepth 20000
set_option maxHeartbeats 4000000
namespace Go.Proofs.YtkoachnlimebaaaGreatDoor
open Go.AL

end Go.Proofs.YtkoachnlimebaaaGreatDoor
