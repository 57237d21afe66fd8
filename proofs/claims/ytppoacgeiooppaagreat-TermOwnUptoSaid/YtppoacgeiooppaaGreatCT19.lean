/- The layer 'check': typ. -/
import Derived.Test.YtppoacgeiooppaaGreatCT15
import Derived.Test.YtppoacgeiooppaaGreatCAL28
set_option linter.unusedSimpArgs false
set_option linter.unusedVariables false
set_option maxRecDepth 20000
set_option maxHeartbeats 4000000
namespace Go.Proofs.YtppoacgeiooppaaGreat
open Go.AL

end Go.Proofs.YtppoacgeiooppaaGreat
/- The layer 'check': typ of all terms; what valid programs give. -/
set_option linter.unusedSimpArgs false
set_option linter.unusedVariables false
set_option maxRecDepth 20000
set_option maxHeartbeats 4000000
namespace Go.Proofs.YtppoacgeiooppaaGreat
open Go.AL

theorem bodies_mem (ds : List DeclG) (pf : List Nat) : ∀ (left : Int) (l : List FunG), left ≤ 600 → bodiesB ds pf left l = true → ∀ f ∈ l, nodesT f.body ≤ 600 ∧ depthT f.body ≤ 24 ∧ validT ds pf (hasB (f.params.map ParamG.name)) (fun _ => false) f.body = true
  | _, [], _, _ => fun f hf => by cases hf
  | left, g :: r, hl, h => by
    rw [bodiesB, Bool.and_eq_true] at h
    intro f hf
    rcases List.mem_cons.1 hf with rfl | hf
    · have := h.1
      simp only [okB, Bool.and_eq_true, decide_eq_true_eq] at this
      exact ⟨by omega, by omega, this.2.2⟩
    · exact bodies_mem ds pf _ r (by omega) h.2 f hf
theorem prog_body {p : ProgG} (h : progB p = true) : ∀ f ∈ p.fs, nodesT f.body ≤ 600 ∧ depthT f.body ≤ 24 ∧ validT p.ds p.pf (hasB (f.params.map ParamG.name)) (fun _ => false) f.body = true := by
  simp only [progB, Bool.and_eq_true] at h
  exact bodies_mem _ _ _ _ (Int.le_refl _) h.2.2.2.2.2
end Go.Proofs.YtppoacgeiooppaaGreat
/- The layer 'check': params, fault, Typed, Check, Fault. -/
set_option linter.unusedSimpArgs false
set_option linter.unusedVariables false
set_option maxRecDepth 20000
set_option maxHeartbeats 4000000
namespace Go.Proofs.YtppoacgeiooppaaGreat
open Go.AL

end Go.Proofs.YtppoacgeiooppaaGreat
/- The layer 'check': Type. -/
set_option linter.unusedSimpArgs false
set_option linter.unusedVariables false
set_option maxRecDepth 20000
set_option maxHeartbeats 4000000
namespace Go.Proofs.YtppoacgeiooppaaGreat
open Go.AL

end Go.Proofs.YtppoacgeiooppaaGreat
