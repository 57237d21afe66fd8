/- A call that is lent all memory: what was there stays as it was. -/
import Derived.Test.YtkoachnlimebaaaGreatDoorCAL34
import Derived.Test.YtkoachnlimebaaaGreatDoorCAL22
import Derived.Test.YtkoachnlimebaaaGreatDoorCAL25
import Derived.Test.YtkoachnlimebaaaGreatDoorCAL28
set_option linter.unusedVariables false
set_option linter.unusedSimpArgs false
namespace Go.AL
end Go.AL
/- A call that is lent all memory and returns a list of its own: the row is tracked afterwards. -/
set_option linter.unusedVariables false
set_option linter.unusedSimpArgs false
namespace Go.AL
end Go.AL
