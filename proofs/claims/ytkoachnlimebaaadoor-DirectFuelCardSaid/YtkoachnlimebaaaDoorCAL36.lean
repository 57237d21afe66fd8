/- A call that is lent all memory: what was there stays as it was. -/
import Derived.Test.YtkoachnlimebaaaDoorCAL34
import Derived.Test.YtkoachnlimebaaaDoorCAL22
import Derived.Test.YtkoachnlimebaaaDoorCAL25
import Derived.Test.YtkoachnlimebaaaDoorCAL28
set_option linter.unusedVariables false
set_option linter.unusedSimpArgs false
namespace Go.AL
end Go.AL
/- A call that is lent all memory and returns a list of its own: the row is tracked afterwards. -/
set_option linter.unusedVariables false
set_option linter.unusedSimpArgs false
namespace Go.AL
end Go.AL
