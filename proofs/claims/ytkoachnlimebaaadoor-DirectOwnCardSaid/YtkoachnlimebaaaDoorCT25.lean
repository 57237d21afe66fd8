/- The reference of the layer 'term': shapes. -/
import Derived.Test.YtkoachnlimebaaaDoorCT22
set_option linter.unusedSimpArgs false
set_option linter.unusedVariables false
set_option maxRecDepth 20000
set_option maxHeartbeats 4000000
namespace Go.Proofs.YtkoachnlimebaaaDoor
open Go.AL

structure ShapeG where
  name : Bool
  typ : Bool
  n : Bool
  args : Nat
  cls : Nat
def ShapeG.cs (s : ShapeG) : List AV := [.v (.bool s.name), .v (.bool s.typ), .v (.bool s.n), .v (.int .i64 s.args), .v (.int .i64 s.cls)]
end Go.Proofs.YtkoachnlimebaaaDoor
/- The reference of the layer 'term': nodes. -/
set_option linter.unusedSimpArgs false
set_option linter.unusedVariables false
set_option maxRecDepth 20000
set_option maxHeartbeats 4000000
namespace Go.Proofs.YtkoachnlimebaaaDoor
open Go.AL

end Go.Proofs.YtkoachnlimebaaaDoor
/- The reference of the layer 'term': nodes are the same. -/
set_option linter.unusedSimpArgs false
set_option linter.unusedVariables false
set_option maxRecDepth 20000
set_option maxHeartbeats 4000000
namespace Go.Proofs.YtkoachnlimebaaaDoor
open Go.AL

end Go.Proofs.YtkoachnlimebaaaDoor
