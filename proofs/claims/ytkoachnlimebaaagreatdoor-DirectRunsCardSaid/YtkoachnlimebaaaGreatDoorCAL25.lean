/- Rows that are tracked as a whole: appending to them. -/
import Derived.Test.YtkoachnlimebaaaGreatDoorCAL19
set_option linter.unusedVariables false
set_option linter.unusedSimpArgs false
namespace Go.AL
section
variable {P : Program}

theorem vals_take (cs : List AV) (n : Nat) : AV.vals (cs.take n) = (AV.vals cs).take n := by simp only [AV.vals_eq, List.map_take]
theorem vals_drop (cs : List AV) (n : Nat) : AV.vals (cs.drop n) = (AV.vals cs).drop n := by simp only [AV.vals_eq, List.map_drop]
end
end Go.AL
/- The first items of a tracked row are published at a call. -/
set_option linter.unusedVariables false
set_option linter.unusedSimpArgs false
namespace Go.AL
end Go.AL
