/- The law of the layer 'check': only, types. -/
import Derived.Test.YtppoacgeiooppaaCT42
import Derived.Test.YtppoacgeiooppaaCAL34
set_option linter.unusedSimpArgs false
set_option linter.unusedVariables false
set_option maxRecDepth 20000
set_option maxHeartbeats 4000000
namespace Go.Proofs.Ytppoacgeiooppaa
open Go.AL

def onlyP (l : List ParamG) (names : List Bytes) : List ParamG := l.filter fun x => hasB names x.name
theorem ones_params2 (l : List ParamG) : ((l.map ParamG.av).flatMap AV.cells).all AV.one = true := by
  induction l with
  | nil => rfl
  | cons a l ih => rw [List.map_cons, List.flatMap_cons, List.all_append, ih]; rfl
theorem only_take {l : List ParamG} {names : List Bytes} {k : Nat} {x : ParamG} (h : l[k]? = some x) : onlyP (l.take (k + 1)) names = if hasB names x.name = true then onlyP (l.take k) names ++ [x] else onlyP (l.take k) names := by
  rw [List.take_add_one, h, onlyP, List.filter_append]
  cases e : hasB names x.name <;> simp [onlyP, e]
theorem only_len (l : List ParamG) (names : List Bytes) (k : Nat) : (onlyP (l.take k) names).length ≤ l.length :=
  Nat.le_trans (List.length_filter_le _ _) (by rw [List.length_take]; omega)
theorem only_calls (h1 h2 : Value) (l : List ParamG) (names : List Bytes) (hl : l.length ≤ 5864062014634) (hp : Hp) : ACalls Try.prog 12 [paramsAV h1 l, strsAV h2 names] hp (fun r hp' => (∃ h, r = paramsAV h (onlyP l names)) ∧ hp' = hp) := by
  refine acalls_addNil 73 2 ?_
  refine acalls_of Try.func12 rfl (by decide +kernel) (awp_sound (mu := []) _ _ _ ?_)
  simp only [go_sem, Nat.reduceEqDiff, Nat.reduceAdd, Nat.reduceSub, Nat.reduceLT, Nat.reduceMul, Nat.reduceBEq, Nat.reduceLeDiff, ↓reduceIte, Int.reduceToNat, Nat.reduceGT, Int.reduceLE, Int.reduceLT, Int.reduceGE, Int.reduceGT, Int.reduceEq, Int.reduceNe, reduceCtorEq, paramsAV]
  refine aw_loopX 24 (fun x : Nat × Value => [(1, strsAV h2 names), (5, paramsAV x.2 (onlyP (l.take x.1) names)), (8, .lst 2 h1 (l.map ParamG.av)), (9, .v (.int .i64 l.length)), (10, .v (.int .i64 x.1))])
    (fun x => hp.setSp ((73, 2, x.2) :: hp.sp)) (fun x => x.1 ≤ l.length) (fun x => l.length - x.1) (0, .slice none 0 0) (Nat.zero_le _)
    (le_of_cast rfl (Hp.le_refl _) (by simp [go_sem, Cast.refl, paramsAV, onlyP]; exact Cast.nil 2)) ?_
  rintro ⟨k, h5⟩ hk
  simp only at hk
  refine awp_sound (mu := []) _ _ _ ?_
  simp only [go_sem, Nat.reduceEqDiff, Nat.reduceAdd, Nat.reduceSub, Nat.reduceLT, Nat.reduceMul, Nat.reduceBEq, Nat.reduceLeDiff, ↓reduceIte, Int.reduceToNat, Nat.reduceGT, Int.reduceLE, Int.reduceLT, Int.reduceGE, Int.reduceGT, Int.reduceEq, Int.reduceNe, reduceCtorEq, paramsAV]
  refine brK_mk (fun b1 => ?_) (fun b1 => ?_) <;> simp only [go_sem, Nat.reduceEqDiff, Nat.reduceAdd, Nat.reduceSub, Nat.reduceLT, Nat.reduceMul, Nat.reduceBEq, Nat.reduceLeDiff, ↓reduceIte, Int.reduceToNat, Nat.reduceGT, Int.reduceLE, Int.reduceLT, Int.reduceGE, Int.reduceGT, Int.reduceEq, Int.reduceNe, reduceCtorEq, b1]
  · have hk' : k < l.length := by simpa using b1
    obtain ⟨x, hx⟩ := someAt l k hk'
    have hwu : IntKind.i64.wrap ((k : Int) + 1) = ((k + 1 : Nat) : Int) := IntWalk.i64_in _ (by omega)
    have htk := only_take (names := names) hx
    have hlen := only_len l names k
    simp only [go_sem, Nat.reduceEqDiff, Nat.reduceAdd, Nat.reduceSub, Nat.reduceLT, Nat.reduceMul, Nat.reduceBEq, Nat.reduceLeDiff, ↓reduceIte, Int.reduceToNat, Nat.reduceGT, Int.reduceLE, Int.reduceLT, Int.reduceGE, Int.reduceGT, Int.reduceEq, Int.reduceNe, reduceCtorEq, mapAt ParamG.av _ _ _ hx, ParamG.av, ParamG.cs]
    intro v hv
    have hdv := fun T cs => Hp.del_set _ _ T cs hv.1
    simp only [hdv]
    refine callX_by (in_calls h2 names x.name _) ?_
    rintro r hp1 ⟨rfl, rfl⟩
    simp only [go_sem, Nat.reduceEqDiff, Nat.reduceAdd, Nat.reduceSub, Nat.reduceLT, Nat.reduceMul, Nat.reduceBEq, Nat.reduceLeDiff, ↓reduceIte, Int.reduceToNat, Nat.reduceGT, Int.reduceLE, Int.reduceLT, Int.reduceGE, Int.reduceGT, Int.reduceEq, Int.reduceNe, reduceCtorEq]
    refine brK_mk (fun b2 => ?_) (fun b2 => ?_) <;> simp only [go_sem, Nat.reduceEqDiff, Nat.reduceAdd, Nat.reduceSub, Nat.reduceLT, Nat.reduceMul, Nat.reduceBEq, Nat.reduceLeDiff, ↓reduceIte, Int.reduceToNat, Nat.reduceGT, Int.reduceLE, Int.reduceLT, Int.reduceGE, Int.reduceGT, Int.reduceEq, Int.reduceNe, reduceCtorEq, b2, hwu]
    · refine ⟨rfl, by simp, fun hd => ?_⟩
      refine append_at 1 Try.k26 Try.s73 Try.y73 Try.z73 rfl (by decide) rfl (Cast.refl _) rfl (Cast.refl _) rfl rfl (by simp [maxLen]; omega) (by simp; omega) (by simp [go_sem]) (fun h6 => ?_)
      simp only [go_sem, Nat.reduceEqDiff, Nat.reduceAdd, Nat.reduceSub, Nat.reduceLT, Nat.reduceMul, Nat.reduceBEq, Nat.reduceLeDiff, ↓reduceIte, Int.reduceToNat, Nat.reduceGT, Int.reduceLE, Int.reduceLT, Int.reduceGE, Int.reduceGT, Int.reduceEq, Int.reduceNe, reduceCtorEq, hwu]
      rw [if_pos b2] at htk
      exact ⟨(k + 1, h6), by simp only; omega, by simp only; omega, le_mkSl rfl ⟨fun _ _ h => h, fun _ _ h => h, List.sublist_cons_self _ _, fun _ h => h⟩ (by rw [htk]; simp [go_sem, hwu, paramsAV, ParamG.av, ParamG.cs])⟩
    · rw [if_neg (by rw [b2]; decide)] at htk
      exact ⟨(k + 1, h5), by simp only; omega, by simp only; omega, le_mkSl rfl (Hp.le_refl _) (by rw [htk]; simp [go_sem, hwu, paramsAV])⟩
  · have e : k = l.length := by have := of_decide_eq_false b1; omega
    subst e
    rw [List.take_length]
    exact ret_le (Hp.le_addSp _ _) ⟨⟨h5, rfl⟩, rfl⟩
theorem types_calls (p : ProgG) (h1 : Value) (l : List ParamG) (hp : Hp) : ACalls Try.prog 13 [p.av, paramsAV h1 l] hp (fun r hp' => r = .v (.bool (typesB p.ds l)) ∧ hp' = hp) := by
  refine acalls_fit (callable_of Try.func13 (by decide +kernel)) fun hfit => ?_
  have hl : l.length ≤ maxLen := fit_lst hfit.2.1
  clear hfit
  refine acalls_of Try.func13 rfl (by decide +kernel) (awp_sound (mu := []) _ _ _ ?_)
  simp only [go_sem, Nat.reduceEqDiff, Nat.reduceAdd, Nat.reduceSub, Nat.reduceLT, Nat.reduceMul, Nat.reduceBEq, Nat.reduceLeDiff, ↓reduceIte, Int.reduceToNat, Nat.reduceGT, Int.reduceLE, Int.reduceLT, Int.reduceGE, Int.reduceGT, Int.reduceEq, Int.reduceNe, reduceCtorEq, ProgG.av, ProgG.cs, declsAV, funsAV, paramsAV]
  intro q1
  refine aw_loopX 25 (fun k : Nat => [(2, .ref q1 [.lst 3 p.hd (p.ds.map DeclG.av), .lst 9 p.hf (p.fs.map FunG.av)]), (7, .lst 2 h1 (l.map ParamG.av)), (8, .v (.int .i64 l.length)), (9, .v (.int .i64 k))])
    (fun _ => hp) (fun k => k ≤ l.length ∧ typesB p.ds (l.drop k) = typesB p.ds l) (fun k => l.length - k) 0 ⟨Nat.zero_le _, rfl⟩ (le_mkSl rfl (Hp.le_refl _) (by simp [go_sem])) ?_
  rintro k ⟨hk, hd⟩
  refine awp_sound (mu := []) _ _ _ ?_
  simp only [go_sem, Nat.reduceEqDiff, Nat.reduceAdd, Nat.reduceSub, Nat.reduceLT, Nat.reduceMul, Nat.reduceBEq, Nat.reduceLeDiff, ↓reduceIte, Int.reduceToNat, Nat.reduceGT, Int.reduceLE, Int.reduceLT, Int.reduceGE, Int.reduceGT, Int.reduceEq, Int.reduceNe, reduceCtorEq]
  refine brK_mk (fun b1 => ?_) (fun b1 => ?_) <;> simp only [go_sem, Nat.reduceEqDiff, Nat.reduceAdd, Nat.reduceSub, Nat.reduceLT, Nat.reduceMul, Nat.reduceBEq, Nat.reduceLeDiff, ↓reduceIte, Int.reduceToNat, Nat.reduceGT, Int.reduceLE, Int.reduceLT, Int.reduceGE, Int.reduceGT, Int.reduceEq, Int.reduceNe, reduceCtorEq, b1]
  · have hk' : k < l.length := by simpa using b1
    obtain ⟨x, hx⟩ := someAt l k hk'
    have hwu := upK k _ hk' hl
    rw [dropK hx, typesB, List.all_cons, ← typesB] at hd
    simp only [go_sem, Nat.reduceEqDiff, Nat.reduceAdd, Nat.reduceSub, Nat.reduceLT, Nat.reduceMul, Nat.reduceBEq, Nat.reduceLeDiff, ↓reduceIte, Int.reduceToNat, Nat.reduceGT, Int.reduceLE, Int.reduceLT, Int.reduceGE, Int.reduceGT, Int.reduceEq, Int.reduceNe, reduceCtorEq, mapAt ParamG.av _ _ _ hx, ParamG.av, ParamG.cs]
    intro v hv
    have hdv := fun T cs => Hp.del_set _ _ T cs hv.1
    refine brK_mk (fun b2 => ?_) (fun b2 => ?_) <;> simp only [go_sem, Nat.reduceEqDiff, Nat.reduceAdd, Nat.reduceSub, Nat.reduceLT, Nat.reduceMul, Nat.reduceBEq, Nat.reduceLeDiff, ↓reduceIte, Int.reduceToNat, Nat.reduceGT, Int.reduceLE, Int.reduceLT, Int.reduceGE, Int.reduceGT, Int.reduceEq, Int.reduceNe, reduceCtorEq, b2, hwu, hdv]
    · have h : typB p.ds x.ty = false := by have := of_decide_eq_true b2; simp [typB]; omega
      exact ret_same ⟨by rw [← hd, h, Bool.false_and], rfl⟩
    · refine brK_mk (fun b3 => ?_) (fun b3 => ?_) <;> simp only [go_sem, Nat.reduceEqDiff, Nat.reduceAdd, Nat.reduceSub, Nat.reduceLT, Nat.reduceMul, Nat.reduceBEq, Nat.reduceLeDiff, ↓reduceIte, Int.reduceToNat, Nat.reduceGT, Int.reduceLE, Int.reduceLT, Int.reduceGE, Int.reduceGT, Int.reduceEq, Int.reduceNe, reduceCtorEq, b3, hwu, hdv]
      · have h : typB p.ds x.ty = false := by have := of_decide_eq_true b3; simp [typB]; omega
        exact ret_same ⟨by rw [← hd, h, Bool.false_and], rfl⟩
      · have h : typB p.ds x.ty = true := by have h1 := of_decide_eq_false b2; have h2 := of_decide_eq_false b3; simp [typB]; omega
        rw [h, Bool.true_and] at hd
        exact ⟨k + 1, by omega, ⟨by omega, hd⟩, le_mkSl rfl (Hp.le_refl _) (by simp [go_sem, hwu])⟩
  · have e : k = l.length := by have := of_decide_eq_false b1; omega
    rw [e, List.drop_of_length_le (Nat.le_refl _)] at hd
    exact ret_same ⟨by rw [← hd]; rfl, rfl⟩
theorem rfreeT_calls (t : TermG) (hN : nodesT t ≤ 5000) (hM : nmT t ≤ 5000000000000) (hp : Hp) : ACalls Try.prog 11 [t.av] hp (FreeR (frT (fun _ => false) (fun _ => false) t ([], [])) hp) := by
  refine acalls_of Try.func11 rfl (by decide +kernel) (awp_sound (mu := []) _ _ _ ?_)
  simp only [go_sem, Nat.reduceEqDiff, Nat.reduceAdd, Nat.reduceSub, Nat.reduceLT, Nat.reduceMul, Nat.reduceBEq, Nat.reduceLeDiff, ↓reduceIte, Int.reduceToNat, Nat.reduceGT, Int.reduceLE, Int.reduceLT, Int.reduceGE, Int.reduceGT, Int.reduceEq, Int.reduceNe, reduceCtorEq, TermG.av, TermG.cs_eq]
  intro q1
  have c := rfree_calls (nodesT t) t (Nat.le_refl _) (.slice none 0 0) (.slice none 0 0) (.slice none 0 0) (.slice none 0 0) [] [] [] [] (by simp only [List.length_nil]; omega) (by simp only [List.length_nil]; omega) (by simp only [List.length_nil]; omega) (by simp only [List.length_nil]; omega) hp
  have c : ACalls Try.prog 36 [t.av, .v (.slice none 0 0), .v (.slice none 0 0), .v (.slice none 0 0), .v (.slice none 0 0)] hp (FreeR (frT (hasB []) (hasB []) t ([], [])) hp) := acalls_cast (args := [t.av, strsAV (.slice none 0 0) [], strsAV (.slice none 0 0) [], strsAV (.slice none 0 0) [], strsAV (.slice none 0 0) []]) rfl (fun m h => ⟨h.1, (Cast.nil 1).2 m trivial, (Cast.nil 1).2 m trivial, (Cast.nil 1).2 m trivial, (Cast.nil 1).2 m trivial, trivial⟩) c
  simp only [TermG.av, TermG.cs_eq] at c
  refine callX_by c ?_
  rintro r hp1 ⟨⟨ha, hb, rfl⟩, rfl⟩
  simp only [go_sem, Nat.reduceEqDiff, Nat.reduceAdd, Nat.reduceSub, Nat.reduceLT, Nat.reduceMul, Nat.reduceBEq, Nat.reduceLeDiff, ↓reduceIte, Int.reduceToNat, Nat.reduceGT, Int.reduceLE, Int.reduceLT, Int.reduceGE, Int.reduceGT, Int.reduceEq, Int.reduceNe, reduceCtorEq]
  exact ret_same ⟨⟨ha, hb, rfl⟩, rfl⟩
end Go.Proofs.Ytppoacgeiooppaa
