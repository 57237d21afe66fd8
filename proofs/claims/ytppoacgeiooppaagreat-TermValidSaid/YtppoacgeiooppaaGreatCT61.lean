/- The reference's Copy and Same of declarations. -/
import Derived.Test.YtppoacgeiooppaaGreatCT51
import Derived.Test.YtppoacgeiooppaaGreatCD6
import Derived.Test.YtppoacgeiooppaaGreatCT22
import Derived.Test.YtppoacgeiooppaaGreatCAL34
import Derived.Test.YtppoacgeiooppaaGreatCT22
set_option linter.unusedSimpArgs false
set_option linter.unusedVariables false
set_option maxRecDepth 20000
set_option maxHeartbeats 4000000
namespace Go.Proofs.YtppoacgeiooppaaGreat
open Go.AL

end Go.Proofs.YtppoacgeiooppaaGreat
/- The reference of the layer 'term': Copy. -/
set_option linter.unusedSimpArgs false
set_option linter.unusedVariables false
set_option maxRecDepth 20000
set_option maxHeartbeats 4000000
namespace Go.Proofs.YtppoacgeiooppaaGreat
open Go.AL

end Go.Proofs.YtppoacgeiooppaaGreat
/- The reference of the layer 'term': copies and comparisons of programs. -/
set_option linter.unusedSimpArgs false
set_option linter.unusedVariables false
set_option maxRecDepth 20000
set_option maxHeartbeats 4000000
namespace Go.Proofs.YtppoacgeiooppaaGreat
open Go.AL

theorem sameStrs_calls (ha hb : Value) (a b : List Bytes) (hp : Hp) : ACalls Tryz.prog 35 [strsAV ha a, strsAV hb b] hp (fun r hp' => r = .v (.bool (decide (a = b))) ∧ hp' = hp) := by
  refine acalls_fit (callable_of Tryz.func35 (by decide +kernel)) fun hfit => ?_
  have hl : a.length ≤ maxLen := fit_lst hfit.1
  clear hfit
  refine acalls_of Tryz.func35 rfl (by decide +kernel) (awp_sound (mu := []) _ _ _ ?_)
  simp only [go_sem, Nat.reduceEqDiff, Nat.reduceAdd, Nat.reduceSub, Nat.reduceLT, Nat.reduceMul, Nat.reduceBEq, Nat.reduceLeDiff, ↓reduceIte, Int.reduceToNat, Nat.reduceGT, Int.reduceLE, Int.reduceLT, Int.reduceGE, Int.reduceGT, Int.reduceEq, Int.reduceNe, reduceCtorEq, strsAV]
  refine brK_mk (fun b0 => ?_) (fun b0 => ?_) <;> simp only [go_sem, Nat.reduceEqDiff, Nat.reduceAdd, Nat.reduceSub, Nat.reduceLT, Nat.reduceMul, Nat.reduceBEq, Nat.reduceLeDiff, ↓reduceIte, Int.reduceToNat, Nat.reduceGT, Int.reduceLE, Int.reduceLT, Int.reduceGE, Int.reduceGT, Int.reduceEq, Int.reduceNe, reduceCtorEq, b0]
  · have hab : a.length = b.length := by have := of_decide_eq_true b0; omega
    refine aw_loopX 26 (fun k : Nat => [(0, .lst 1 ha (a.map fun s => .v (.string (bs s)))), (1, .lst 1 hb (b.map fun s => .v (.string (bs s)))), (12, .v (.int .i64 a.length)), (13, .v (.int .i64 k))])
      (fun _ => hp) (fun k => k ≤ a.length ∧ a.take k = b.take k) (fun k => a.length - k) 0 ⟨Nat.zero_le _, rfl⟩ (le_mkSl rfl (Hp.le_refl _) (by simp [go_sem])) ?_
    rintro k ⟨hk, hd⟩
    refine awp_sound (mu := []) _ _ _ ?_
    simp only [go_sem, Nat.reduceEqDiff, Nat.reduceAdd, Nat.reduceSub, Nat.reduceLT, Nat.reduceMul, Nat.reduceBEq, Nat.reduceLeDiff, ↓reduceIte, Int.reduceToNat, Nat.reduceGT, Int.reduceLE, Int.reduceLT, Int.reduceGE, Int.reduceGT, Int.reduceEq, Int.reduceNe, reduceCtorEq]
    refine brK_mk (fun b1 => ?_) (fun b1 => ?_) <;> simp only [go_sem, Nat.reduceEqDiff, Nat.reduceAdd, Nat.reduceSub, Nat.reduceLT, Nat.reduceMul, Nat.reduceBEq, Nat.reduceLeDiff, ↓reduceIte, Int.reduceToNat, Nat.reduceGT, Int.reduceLE, Int.reduceLT, Int.reduceGE, Int.reduceGT, Int.reduceEq, Int.reduceNe, reduceCtorEq, b1]
    · have hk' : k < a.length := by simpa using b1
      obtain ⟨x, hx⟩ := someAt a k hk'
      obtain ⟨y, hy⟩ := someAt b k (by omega)
      have hwu := upK k _ hk' hl
      refine draw_by (mu := []) (fun _ => True) (.take 0 (.take 1 (.take 2 (.take 3 (.take 4 (.take 5 (.take 6 (.take 7 (.take 8 (.done)))))))))) (by decide +kernel) trivial (by decide +kernel) (by decide +kernel) ?_
      simp only [go_sem, Nat.reduceEqDiff, Nat.reduceAdd, Nat.reduceSub, Nat.reduceLT, Nat.reduceMul, Nat.reduceBEq, Nat.reduceLeDiff, ↓reduceIte, Int.reduceToNat, Nat.reduceGT, Int.reduceLE, Int.reduceLT, Int.reduceGE, Int.reduceGT, Int.reduceEq, Int.reduceNe, reduceCtorEq, strAt _ _ _ hx, strAt _ _ _ hy]
      refine brK_mk (fun b2 => ?_) (fun b2 => ?_) <;> simp only [go_sem, Nat.reduceEqDiff, Nat.reduceAdd, Nat.reduceSub, Nat.reduceLT, Nat.reduceMul, Nat.reduceBEq, Nat.reduceLeDiff, ↓reduceIte, Int.reduceToNat, Nat.reduceGT, Int.reduceLE, Int.reduceLT, Int.reduceGE, Int.reduceGT, Int.reduceEq, Int.reduceNe, reduceCtorEq, b2, hwu]
      · have e := of_decide_eq_true b2
        subst e
        exact ⟨k + 1, by omega, ⟨by omega, by rw [List.take_add_one, List.take_add_one, hx, hy, hd]⟩, le_mkSl rfl (Hp.le_refl _) (by simp [go_sem, hwu])⟩
      · have e := of_decide_eq_false b2
        exact ret_same ⟨by rw [decide_eq_false]; rintro rfl; rw [hx] at hy; exact e (Option.some.inj hy), rfl⟩
    · have e : k = a.length := by simp at b1; omega
      subst e
      rw [List.take_length, hab, List.take_length] at hd
      exact ret_same ⟨by rw [decide_eq_true hd], rfl⟩
  · exact ret_same ⟨by rw [decide_eq_false]; rintro rfl; exact of_decide_eq_false b0 rfl, rfl⟩
end Go.Proofs.YtppoacgeiooppaaGreat
