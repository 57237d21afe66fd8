/- The law of the layer 'check': only, types. -/
import Derived.Test.YtppoacgeiooppaaGreatCT42
import Derived.Test.YtppoacgeiooppaaGreatCAL34
set_option linter.unusedSimpArgs false
set_option linter.unusedVariables false
set_option maxRecDepth 20000
set_option maxHeartbeats 4000000
namespace Go.Proofs.YtppoacgeiooppaaGreat
open Go.AL

theorem ones_params2 (l : List ParamG) : ((l.map ParamG.av).flatMap AV.cells).all AV.one = true := by
  induction l with
  | nil => rfl
  | cons a l ih => rw [List.map_cons, List.flatMap_cons, List.all_append, ih]; rfl
theorem rfreeT_calls (t : TermG) (hN : nodesT t ≤ 5000) (hM : nmT t ≤ 5000000000000) (hp : Hp) : ACalls Tryz.prog 34 [t.av] hp (FreeR (frT (fun _ => false) (fun _ => false) t ([], [])) hp) := by
  refine acalls_of Tryz.func34 rfl (by decide +kernel) (awp_sound (mu := []) _ _ _ ?_)
  simp only [go_sem, Nat.reduceEqDiff, Nat.reduceAdd, Nat.reduceSub, Nat.reduceLT, Nat.reduceMul, Nat.reduceBEq, Nat.reduceLeDiff, ↓reduceIte, Int.reduceToNat, Nat.reduceGT, Int.reduceLE, Int.reduceLT, Int.reduceGE, Int.reduceGT, Int.reduceEq, Int.reduceNe, reduceCtorEq, TermG.av, TermG.cs_eq]
  intro q1
  have c := rfree_calls (nodesT t) t (Nat.le_refl _) (.slice none 0 0) (.slice none 0 0) (.slice none 0 0) (.slice none 0 0) [] [] [] [] (by simp only [List.length_nil]; omega) (by simp only [List.length_nil]; omega) (by simp only [List.length_nil]; omega) (by simp only [List.length_nil]; omega) hp
  have c : ACalls Tryz.prog 63 [t.av, .v (.slice none 0 0), .v (.slice none 0 0), .v (.slice none 0 0), .v (.slice none 0 0)] hp (FreeR (frT (hasB []) (hasB []) t ([], [])) hp) := acalls_cast (args := [t.av, strsAV (.slice none 0 0) [], strsAV (.slice none 0 0) [], strsAV (.slice none 0 0) [], strsAV (.slice none 0 0) []]) rfl (fun m h => ⟨h.1, (Cast.nil 1).2 m trivial, (Cast.nil 1).2 m trivial, (Cast.nil 1).2 m trivial, (Cast.nil 1).2 m trivial, trivial⟩) c
  simp only [TermG.av, TermG.cs_eq] at c
  refine callX_by c ?_
  rintro r hp1 ⟨⟨ha, hb, rfl⟩, rfl⟩
  simp only [go_sem, Nat.reduceEqDiff, Nat.reduceAdd, Nat.reduceSub, Nat.reduceLT, Nat.reduceMul, Nat.reduceBEq, Nat.reduceLeDiff, ↓reduceIte, Int.reduceToNat, Nat.reduceGT, Int.reduceLE, Int.reduceLT, Int.reduceGE, Int.reduceGT, Int.reduceEq, Int.reduceNe, reduceCtorEq]
  exact ret_same ⟨⟨ha, hb, rfl⟩, rfl⟩
end Go.Proofs.YtppoacgeiooppaaGreat
