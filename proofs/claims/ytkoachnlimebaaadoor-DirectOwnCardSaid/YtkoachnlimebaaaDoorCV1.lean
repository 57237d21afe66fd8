/- The reference of the layer 'term': Valid. -/
import Derived.Test.YtkoachnlimebaaaDoorCT25
import Derived.Test.YtkoachnlimebaaaDoorCV0
set_option linter.unusedSimpArgs false
set_option linter.unusedVariables false
set_option maxRecDepth 20000
set_option maxHeartbeats 4000000
namespace Go.Proofs.YtkoachnlimebaaaDoor
open Go.AL

end Go.Proofs.YtkoachnlimebaaaDoor
/- The reference of the layer 'term': Params, Few, heads. -/
set_option linter.unusedSimpArgs false
set_option linter.unusedVariables false
set_option maxRecDepth 20000
set_option maxHeartbeats 4000000
namespace Go.Proofs.YtkoachnlimebaaaDoor
open Go.AL

def fewB (p : ProgG) (m : Nat) : Bool := !decide ((p.ds.length : Int) > 40) && (!decide ((p.fs.length : Int) > 40) && p.fs.all fun f => decide (nodesT f.body ≤ m))
theorem few_calls (p : ProgG) (m : Nat) (hm : m ≤ 4000) (hp : Hp) : ACalls Tryd.prog 5 [p.av, .v (.int .i64 m)] hp (fun r hp' => r = .v (.bool (fewB p m)) ∧ hp' = hp) := by
  refine acalls_of Tryd.func5 rfl (by decide +kernel) (awp_sound (mu := []) _ _ _ ?_)
  simp only [go_sem, Nat.reduceEqDiff, Nat.reduceAdd, Nat.reduceSub, Nat.reduceLT, Nat.reduceMul, Nat.reduceBEq, Nat.reduceLeDiff, ↓reduceIte, Int.reduceToNat, Nat.reduceGT, Int.reduceLE, Int.reduceLT, Int.reduceGE, Int.reduceGT, Int.reduceEq, Int.reduceNe, reduceCtorEq, ProgG.av, ProgG.cs, declsAV, funsAV]
  intro q1
  refine brK_mk (fun b1 => ?_) (fun b1 => ?_) <;> simp only [go_sem, Nat.reduceEqDiff, Nat.reduceAdd, Nat.reduceSub, Nat.reduceLT, Nat.reduceMul, Nat.reduceBEq, Nat.reduceLeDiff, ↓reduceIte, Int.reduceToNat, Nat.reduceGT, Int.reduceLE, Int.reduceLT, Int.reduceGE, Int.reduceGT, Int.reduceEq, Int.reduceNe, reduceCtorEq, b1]
  · exact ret_same ⟨by simp only [fewB, b1, Bool.and_true, Bool.true_and, Bool.and_false, Bool.false_and, Bool.or_true, Bool.true_or, Bool.or_false, Bool.false_or, Bool.not_true, Bool.not_false], rfl⟩
  · refine brK_mk (fun b2 => ?_) (fun b2 => ?_) <;> simp only [go_sem, Nat.reduceEqDiff, Nat.reduceAdd, Nat.reduceSub, Nat.reduceLT, Nat.reduceMul, Nat.reduceBEq, Nat.reduceLeDiff, ↓reduceIte, Int.reduceToNat, Nat.reduceGT, Int.reduceLE, Int.reduceLT, Int.reduceGE, Int.reduceGT, Int.reduceEq, Int.reduceNe, reduceCtorEq, b2]
    · exact ret_same ⟨by simp only [fewB, b1, b2, Bool.and_true, Bool.true_and, Bool.and_false, Bool.false_and, Bool.or_true, Bool.true_or, Bool.or_false, Bool.false_or, Bool.not_true, Bool.not_false], rfl⟩
    · have hfl : p.fs.length ≤ 40 := by have := of_decide_eq_false b2; omega
      have hfw : fewB p m = p.fs.all fun f => decide (nodesT f.body ≤ m) := by simp only [fewB, b1, b2, Bool.and_true, Bool.true_and, Bool.and_false, Bool.false_and, Bool.or_true, Bool.true_or, Bool.or_false, Bool.false_or, Bool.not_true, Bool.not_false]
      refine aw_loopX 30 (fun k : Nat => [(1, .v (.int .i64 m)), (18, .lst 9 p.hf (p.fs.map FunG.av)), (19, .v (.int .i64 p.fs.length)), (20, .v (.int .i64 k))])
        (fun _ => hp) (fun k => k ≤ p.fs.length ∧ ((p.fs.drop k).all fun f => decide (nodesT f.body ≤ m)) = (p.fs.all fun f => decide (nodesT f.body ≤ m))) (fun k => p.fs.length - k) 0 ⟨Nat.zero_le _, rfl⟩ (le_mkSl rfl (Hp.le_refl _) (by simp [go_sem])) ?_
      rintro k ⟨hk, hd⟩
      refine awp_sound (mu := []) _ _ _ ?_
      simp only [go_sem, Nat.reduceEqDiff, Nat.reduceAdd, Nat.reduceSub, Nat.reduceLT, Nat.reduceMul, Nat.reduceBEq, Nat.reduceLeDiff, ↓reduceIte, Int.reduceToNat, Nat.reduceGT, Int.reduceLE, Int.reduceLT, Int.reduceGE, Int.reduceGT, Int.reduceEq, Int.reduceNe, reduceCtorEq]
      refine brK_mk (fun b3 => ?_) (fun b3 => ?_) <;> simp only [go_sem, Nat.reduceEqDiff, Nat.reduceAdd, Nat.reduceSub, Nat.reduceLT, Nat.reduceMul, Nat.reduceBEq, Nat.reduceLeDiff, ↓reduceIte, Int.reduceToNat, Nat.reduceGT, Int.reduceLE, Int.reduceLT, Int.reduceGE, Int.reduceGT, Int.reduceEq, Int.reduceNe, reduceCtorEq, b3]
      · have hk' : k < p.fs.length := by simpa using b3
        obtain ⟨f, hf⟩ := someAt p.fs k hk'
        have hwu : IntKind.i64.wrap ((k : Int) + 1) = ((k + 1 : Nat) : Int) := IntWalk.i64_in _ (by omega)
        rw [dropK hf, List.all_cons] at hd
        simp only [go_sem, Nat.reduceEqDiff, Nat.reduceAdd, Nat.reduceSub, Nat.reduceLT, Nat.reduceMul, Nat.reduceBEq, Nat.reduceLeDiff, ↓reduceIte, Int.reduceToNat, Nat.reduceGT, Int.reduceLE, Int.reduceLT, Int.reduceGE, Int.reduceGT, Int.reduceEq, Int.reduceNe, reduceCtorEq, mapAt FunG.av _ _ _ hf, FunG.av, FunG.cs, paramsAV]
        intro v hv
        have hds := fun T cs => Hp.del_set _ _ T cs hv.1
        simp only [go_sem, Nat.reduceEqDiff, Nat.reduceAdd, Nat.reduceSub, Nat.reduceLT, Nat.reduceMul, Nat.reduceBEq, Nat.reduceLeDiff, ↓reduceIte, Int.reduceToNat, Nat.reduceGT, Int.reduceLE, Int.reduceLT, Int.reduceGE, Int.reduceGT, Int.reduceEq, Int.reduceNe, reduceCtorEq, hds]
        have c := fits_t_calls f.body m hm hp
        simp only [TermG.av, TermG.cs_eq] at c
        refine callX_by c ?_
        clear c
        rintro r hp2 ⟨rfl, rfl⟩
        simp only [go_sem, Nat.reduceEqDiff, Nat.reduceAdd, Nat.reduceSub, Nat.reduceLT, Nat.reduceMul, Nat.reduceBEq, Nat.reduceLeDiff, ↓reduceIte, Int.reduceToNat, Nat.reduceGT, Int.reduceLE, Int.reduceLT, Int.reduceGE, Int.reduceGT, Int.reduceEq, Int.reduceNe, reduceCtorEq]
        refine brK_mk (fun b4 => ?_) (fun b4 => ?_) <;> simp only [go_sem, Nat.reduceEqDiff, Nat.reduceAdd, Nat.reduceSub, Nat.reduceLT, Nat.reduceMul, Nat.reduceBEq, Nat.reduceLeDiff, ↓reduceIte, Int.reduceToNat, Nat.reduceGT, Int.reduceLE, Int.reduceLT, Int.reduceGE, Int.reduceGT, Int.reduceEq, Int.reduceNe, reduceCtorEq, b4, hwu]
        · rw [b4, Bool.true_and] at hd
          exact ⟨k + 1, by omega, ⟨by omega, hd⟩, le_mkSl rfl (Hp.le_refl _) (by simp [go_sem, hwu])⟩
        · rw [b4, Bool.false_and] at hd
          exact ret_same ⟨by rw [hfw, ← hd], rfl⟩
      · have e : k = p.fs.length := by simp at b3; omega
        rw [e, List.drop_of_length_le (Nat.le_refl _)] at hd
        exact ret_same ⟨by rw [hfw, ← hd]; rfl, rfl⟩
/-! ### heads -/
end Go.Proofs.YtkoachnlimebaaaDoor
/- How many names the clauses of a term bind, for the seat without the checker. -/
set_option linter.unusedSimpArgs false
set_option linter.unusedVariables false
set_option maxRecDepth 20000
set_option maxHeartbeats 4000000
namespace Go.Proofs.YtkoachnlimebaaaDoor
open Go.AL

/-! ### How many names the clauses bind -/
mutual
def nmT : TermG → Nat
  | .mk _ _ _ _ _ args _ cls => nmA args + nmC cls
def nmA : List TermG → Nat
  | [] => 0
  | a :: r => nmT a + nmA r
def nmC : List ClauseG → Nat
  | [] => 0
  | c :: r => nmB c + nmC r
def nmB : ClauseG → Nat
  | .mk _ names b => names.length + nmT b
end
end Go.Proofs.YtkoachnlimebaaaDoor
