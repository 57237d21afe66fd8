/- A tracked row is published at a call. -/
import Derived.Test.YtppoacgeiooppaaGreatCAL17
set_option linter.unusedVariables false
set_option linter.unusedSimpArgs false
namespace Go.AL
section
variable {P : Program}

/-- Arguments may be told otherwise. -/
theorem acalls_cast {f : FuncId} {args args' : List AV} {hp : Hp} {R : AV → Hp → Prop} (hv : AV.vals args' = AV.vals args) (hok : ∀ m, AV.oks m args' → AV.oks m args) (h : ACalls P f args hp R) : ACalls P f args' hp R :=
  ⟨h.1, fun F w ⟨hlo, m, hle, hhp, ho⟩ => by rw [hv]; exact h.2 F w ⟨hlo, m, hle, hhp, hok m ho⟩⟩

end
end Go.AL
