/- The layer 'check': the rules whose arguments are checked against a list. -/
import Derived.Test.YtppoacgeiooppaaGreatCT12
set_option linter.unusedSimpArgs false
set_option linter.unusedVariables false
set_option maxRecDepth 20000
set_option maxHeartbeats 4000000
namespace Go.Proofs.YtppoacgeiooppaaGreat
open Go.AL

theorem valid_node {ds : List DeclG} {pf : List Nat} {V L : Bytes → Bool} {t : TermG} (h : validT ds pf V L t = true) : nodeB ds pf V L t = true := by
  rw [validT_eq, Bool.and_eq_true] at h; exact h.1
theorem node_nocls {ds : List DeclG} {pf : List Nat} {V L : Bytes → Bool} {t : TermG} (h5 : t.op ≠ 5) (h7 : t.op ≠ 7) (h : nodeB ds pf V L t = true) : t.cls = [] := by
  by_cases hc : t.cls.length = 0
  · exact List.eq_nil_of_length_eq_zero hc
  · rw [node_cls h5 h7 hc] at h; cases h
end Go.Proofs.YtppoacgeiooppaaGreat
/- The layer 'check': the other rules. -/
set_option linter.unusedSimpArgs false
set_option linter.unusedVariables false
set_option maxRecDepth 20000
set_option maxHeartbeats 4000000
namespace Go.Proofs.YtppoacgeiooppaaGreat
open Go.AL

end Go.Proofs.YtppoacgeiooppaaGreat
/- The layer 'check': the rules of clauses. -/
set_option linter.unusedSimpArgs false
set_option linter.unusedVariables false
set_option maxRecDepth 20000
set_option maxHeartbeats 4000000
namespace Go.Proofs.YtppoacgeiooppaaGreat
open Go.AL

end Go.Proofs.YtppoacgeiooppaaGreat
