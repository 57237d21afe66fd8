/- The rule for the lesser of two numbers. -/
import Derived.Test.YtkoachnlimebaaaDoorCAL19
import Derived.Laws.Small
set_option linter.unusedVariables false
set_option linter.unusedSimpArgs false
namespace Go.AL
section
variable {P : Program}
theorem min_by {d : Option Nat} {ty : TypeId} {pos : String} {aft : Array Edge} {g : Option (Nat × Bool)} {t u : TypeId} {x y : Operand} {K : St → Prop} {st : St} {k k' : IntKind} {a b : Int}
    {fo : Fix (⟨d, .call { callee := .builtin .min, args := [x, y].toArray, argTypes := [t, u].toArray }, ty, pos, aft, g⟩ : Oper)} {fk : Fix K}
    (hx : st.ev x = some (.v (.int k a))) (hy : st.ev y = some (.v (.int k' b))) (hd : dstOk st d)
    (hK : K (st.putO d (.v (.int k (if b < a then b else a))))) : aopX P ⟨d, .call { callee := .builtin .min, args := [x, y].toArray, argTypes := [t, u].toArray }, ty, pos, aft, g⟩ K st fo fk := by
  intro F ac w hr K' Q hK'
  obtain ⟨m, hm⟩ := hr.ex
  have hvx := hr.eval hx
  have hvy := hr.eval hy
  simp only [AV.val] at hvx hvy
  unfold Oper.wp
  have hrun : (execOp ac.eval ⟨d, .call { callee := .builtin .min, args := [x, y].toArray, argTypes := [t, u].toArray }, ty, pos, aft, g⟩).run P w = .ok (.value (.int k (if b < a then b else a))) w := by
    have hb := run_min_int2 (P := P) (w := w) [t, u].toArray ty k k' a b
    simp only [execOp, resolve, Sem.run_bind, Sem.run_pure, Result.andThen_ok, invoke, builtin]
    simp [hvx, hvy, hb]
  rw [hrun]
  exact hK' _ _ ⟨_, hK, hr.putM hm hd (x := .v (.int k (if b < a then b else a))) trivial⟩
end
end Go.AL
