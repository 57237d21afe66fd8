/- Copying nothing. -/
import Derived.Test.YtfdlfcafcjhpmaaCAL30
set_option linter.unusedVariables false
namespace Go.AL
section
variable {P : Program}
theorem copy0_by {d : Option Nat} {ty : TypeId} {pos : String} {aft : Array Edge} {g : Option (Nat × Bool)} {t t2 e : TypeId} {s x : Operand} {sz : Nat} {K : St → Prop} {st : St} {a a2 : Option Addr} {c c2 : Nat}
    {fo : Fix (⟨d, .call { callee := .builtin .copy, args := [s, x].toArray, argTypes := [t, t2].toArray }, ty, pos, aft, g⟩ : Oper)} {fk : Fix K}
    (hk : kindT P t = .sl e) (hsz : szT P e = some sz)
    (hs : st.ev s = some (.v (.slice a 0 c))) (hx : st.ev x = some (.v (.slice a2 0 c2))) (hd : dstOk st d) (hK : K (st.putO d (.v (.int .i64 0)))) :
    aopX P ⟨d, .call { callee := .builtin .copy, args := [s, x].toArray, argTypes := [t, t2].toArray }, ty, pos, aft, g⟩ K st fo fk := by
  intro F ac w hr K' Q hK'
  obtain ⟨m, hm⟩ := hr.ex
  have hv := hr.eval hs
  have hv2 := hr.eval hx
  simp only [AV.val] at hv hv2
  obtain ⟨ie, hie, hsize⟩ := szT_info hsz
  have hu := kind_sl hk
  unfold Oper.wp
  have hrun' : (execOp ac.eval ⟨d, .call { callee := .builtin .copy, args := [s, x].toArray, argTypes := [t, t2].toArray }, ty, pos, aft, g⟩).run P w = .ok (.value (goInt 0)) w := by
    have hrun := run_copy_zero (P := P) w t t2 ty e ie a a2 c c2 hu hie
    simp only [execOp, resolve, Sem.run_bind, Sem.run_pure, Result.andThen_ok, invoke, builtin]
    simp [hv, hv2, hrun]
  rw [hrun']
  exact hK' _ _ ⟨_, hK, hr.close hm hr.lo (Mem.le_refl m) hm.hp hd (x := .v (.int .i64 0)) trivial⟩
end
end Go.AL
