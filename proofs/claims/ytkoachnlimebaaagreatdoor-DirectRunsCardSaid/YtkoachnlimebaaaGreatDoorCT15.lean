/- The layer 'check': the rules whose arguments are checked against a list. -/
import Derived.Test.YtkoachnlimebaaaGreatDoorCT12
set_option linter.unusedSimpArgs false
set_option linter.unusedVariables false
set_option maxRecDepth 20000
set_option maxHeartbeats 4000000
namespace Go.Proofs.YtkoachnlimebaaaGreatDoor
open Go.AL

theorem node_nocls {ds : List DeclG} {pf : List Nat} {V L : Bytes → Bool} {t : TermG} (h5 : t.op ≠ 5) (h7 : t.op ≠ 7) (h : nodeB ds pf V L t = true) : t.cls = [] := by
  by_cases hc : t.cls.length = 0
  · exact List.eq_nil_of_length_eq_zero hc
  · rw [node_cls h5 h7 hc] at h; cases h
end Go.Proofs.YtkoachnlimebaaaGreatDoor
/- The layer 'check': the other rules. -/
set_option linter.unusedSimpArgs false
set_option linter.unusedVariables false
set_option maxRecDepth 20000
set_option maxHeartbeats 4000000
namespace Go.Proofs.YtkoachnlimebaaaGreatDoor
open Go.AL

end Go.Proofs.YtkoachnlimebaaaGreatDoor
/- The layer 'check': the rules of clauses. -/
set_option linter.unusedSimpArgs false
set_option linter.unusedVariables false
set_option maxRecDepth 20000
set_option maxHeartbeats 4000000
namespace Go.Proofs.YtkoachnlimebaaaGreatDoor
open Go.AL

theorem clsNames_at : ∀ {xs : List XtorG} {cs : List ClauseG} {i : Nat} {x : XtorG} {c : ClauseG}, clsNames xs cs = true → xs[i]? = some x → cs[i]? = some c → c.names.length = prodN x
  | [], [], _, _, _, _, h, _ => by simp at h
  | [], _ :: _, _, _, _, h, _, _ => by cases h
  | _ :: _, [], _, _, _, h, _, _ => by cases h
  | y :: xs, d :: cs, i, x, c, h, hx, hc => by
    rw [clsNames, Bool.and_eq_true, Bool.and_eq_true, decide_eq_true_eq] at h
    cases i with
    | zero =>
      simp only [List.getElem?_cons_zero, Option.some.injEq] at hx hc
      subst hx; subst hc; exact h.1.1
    | succ i =>
      rw [List.getElem?_cons_succ] at hx hc
      exact clsNames_at h.2 hx hc
theorem clsNames_len' {xs : List XtorG} {cs : List ClauseG} (h : clsNames xs cs = true) : xs.length = cs.length := by
  by_cases e : xs.length = cs.length
  · exact e
  · rw [clsNames_len xs cs e] at h; cases h
end Go.Proofs.YtkoachnlimebaaaGreatDoor
