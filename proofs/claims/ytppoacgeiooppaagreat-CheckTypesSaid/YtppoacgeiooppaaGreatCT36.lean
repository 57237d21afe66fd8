/- The law of the layer 'check': CheckForms, CheckTypes. -/
import Derived.Test.YtppoacgeiooppaaGreatCT35
import Derived.Test.YtppoacgeiooppaaGreatCT45
set_option linter.unusedSimpArgs false
set_option linter.unusedVariables false
set_option maxRecDepth 20000
set_option maxHeartbeats 4000000
namespace Go.Proofs.YtppoacgeiooppaaGreat
open Go.AL

theorem types_calls (p : ProgG) (h1 : Value) (l : List ParamG) (hp : Hp) : ACalls Tryz.prog 17 [p.av, paramsAV h1 l] hp (fun r hp' => r = .v (.bool (typesB p.ds l)) ∧ hp' = hp) := by
  refine acalls_fit (callable_of Tryz.func17 (by decide +kernel)) fun hfit => ?_
  have hl : l.length ≤ maxLen := fit_lst hfit.2.1
  clear hfit
  refine acalls_of Tryz.func17 rfl (by decide +kernel) (awp_sound (mu := []) _ _ _ ?_)
  simp only [go_sem, Nat.reduceEqDiff, Nat.reduceAdd, Nat.reduceSub, Nat.reduceLT, Nat.reduceMul, Nat.reduceBEq, Nat.reduceLeDiff, ↓reduceIte, Int.reduceToNat, Nat.reduceGT, Int.reduceLE, Int.reduceLT, Int.reduceGE, Int.reduceGT, Int.reduceEq, Int.reduceNe, reduceCtorEq, ProgG.av, ProgG.cs, declsAV, funsAV, paramsAV]
  intro q1
  refine aw_loopX 25 (fun k : Nat => [(2, .ref q1 [.lst 3 p.hd (p.ds.map DeclG.av), .lst 9 p.hf (p.fs.map FunG.av)]), (7, .lst 2 h1 (l.map ParamG.av)), (8, .v (.int .i64 l.length)), (9, .v (.int .i64 k))])
    (fun _ => hp) (fun k => k ≤ l.length ∧ typesB p.ds (l.drop k) = typesB p.ds l) (fun k => l.length - k) 0 ⟨Nat.zero_le _, rfl⟩ (le_mkSl rfl (Hp.le_refl _) (by simp [go_sem])) ?_
  rintro k ⟨hk, hd⟩
  refine awp_sound (mu := []) _ _ _ ?_
  simp only [go_sem, Nat.reduceEqDiff, Nat.reduceAdd, Nat.reduceSub, Nat.reduceLT, Nat.reduceMul, Nat.reduceBEq, Nat.reduceLeDiff, ↓reduceIte, Int.reduceToNat, Nat.reduceGT, Int.reduceLE, Int.reduceLT, Int.reduceGE, Int.reduceGT, Int.reduceEq, Int.reduceNe, reduceCtorEq]
  refine brK_mk (fun b1 => ?_) (fun b1 => ?_) <;> simp only [go_sem, Nat.reduceEqDiff, Nat.reduceAdd, Nat.reduceSub, Nat.reduceLT, Nat.reduceMul, Nat.reduceBEq, Nat.reduceLeDiff, ↓reduceIte, Int.reduceToNat, Nat.reduceGT, Int.reduceLE, Int.reduceLT, Int.reduceGE, Int.reduceGT, Int.reduceEq, Int.reduceNe, reduceCtorEq, b1]
  · have hk' : k < l.length := by simpa using b1
    obtain ⟨x, hx⟩ := someAt l k hk'
    have hwu := upK k _ hk' hl
    rw [dropK hx, typesB, List.all_cons, ← typesB] at hd
    simp only [go_sem, Nat.reduceEqDiff, Nat.reduceAdd, Nat.reduceSub, Nat.reduceLT, Nat.reduceMul, Nat.reduceBEq, Nat.reduceLeDiff, ↓reduceIte, Int.reduceToNat, Nat.reduceGT, Int.reduceLE, Int.reduceLT, Int.reduceGE, Int.reduceGT, Int.reduceEq, Int.reduceNe, reduceCtorEq, mapAt ParamG.av _ _ _ hx, ParamG.av, ParamG.cs]
    intro v hv
    have hdv := fun T cs => Hp.del_set _ _ T cs hv.1
    refine brK_mk (fun b2 => ?_) (fun b2 => ?_) <;> simp only [go_sem, Nat.reduceEqDiff, Nat.reduceAdd, Nat.reduceSub, Nat.reduceLT, Nat.reduceMul, Nat.reduceBEq, Nat.reduceLeDiff, ↓reduceIte, Int.reduceToNat, Nat.reduceGT, Int.reduceLE, Int.reduceLT, Int.reduceGE, Int.reduceGT, Int.reduceEq, Int.reduceNe, reduceCtorEq, b2, hwu, hdv]
    · have h : typB p.ds x.ty = false := by have := of_decide_eq_true b2; simp [typB]; omega
      exact ret_same ⟨by rw [← hd, h, Bool.false_and], rfl⟩
    · refine brK_mk (fun b3 => ?_) (fun b3 => ?_) <;> simp only [go_sem, Nat.reduceEqDiff, Nat.reduceAdd, Nat.reduceSub, Nat.reduceLT, Nat.reduceMul, Nat.reduceBEq, Nat.reduceLeDiff, ↓reduceIte, Int.reduceToNat, Nat.reduceGT, Int.reduceLE, Int.reduceLT, Int.reduceGE, Int.reduceGT, Int.reduceEq, Int.reduceNe, reduceCtorEq, b3, hwu, hdv]
      · have h : typB p.ds x.ty = false := by have := of_decide_eq_true b3; simp [typB]; omega
        exact ret_same ⟨by rw [← hd, h, Bool.false_and], rfl⟩
      · have h : typB p.ds x.ty = true := by have h1 := of_decide_eq_false b2; have h2 := of_decide_eq_false b3; simp [typB]; omega
        rw [h, Bool.true_and] at hd
        exact ⟨k + 1, by omega, ⟨by omega, hd⟩, le_mkSl rfl (Hp.le_refl _) (by simp [go_sem, hwu])⟩
  · have e : k = l.length := by have := of_decide_eq_false b1; omega
    rw [e, List.drop_of_length_le (Nat.le_refl _)] at hd
    exact ret_same ⟨by rw [← hd]; rfl, rfl⟩
theorem checkForms_calls (p : ProgG) (hpf : PFit p) (hp : Hp) (hg : GOk hp) : ACalls Tryz.prog 3 [p.av] hp (fun r hp' => r = .v (.bool true) ∧ hp' = hp) := by
  refine acalls_of Tryz.func3 rfl (by decide +kernel) (awp_sound (mu := []) _ _ _ ?_)
  simp only [go_sem, Nat.reduceEqDiff, Nat.reduceAdd, Nat.reduceSub, Nat.reduceLT, Nat.reduceMul, Nat.reduceBEq, Nat.reduceLeDiff, ↓reduceIte, Int.reduceToNat, Nat.reduceGT, Int.reduceLE, Int.reduceLT, Int.reduceGE, Int.reduceGT, Int.reduceEq, Int.reduceNe, reduceCtorEq, ProgG.av, ProgG.cs, declsAV, funsAV]
  intro q1
  have c := fun hp => few_calls p 700 (by omega) hp
  simp only [ProgG.av, ProgG.cs, declsAV, funsAV] at c
  refine callX_by (c _) ?_
  clear c
  rintro r hp1 ⟨rfl, rfl⟩
  simp only [go_sem, Nat.reduceEqDiff, Nat.reduceAdd, Nat.reduceSub, Nat.reduceLT, Nat.reduceMul, Nat.reduceBEq, Nat.reduceLeDiff, ↓reduceIte, Int.reduceToNat, Nat.reduceGT, Int.reduceLE, Int.reduceLT, Int.reduceGE, Int.reduceGT, Int.reduceEq, Int.reduceNe, reduceCtorEq]
  refine brK_mk (fun b1 => ?_) (fun b1 => ?_) <;> simp only [go_sem, Nat.reduceEqDiff, Nat.reduceAdd, Nat.reduceSub, Nat.reduceLT, Nat.reduceMul, Nat.reduceBEq, Nat.reduceLeDiff, ↓reduceIte, Int.reduceToNat, Nat.reduceGT, Int.reduceLE, Int.reduceLT, Int.reduceGE, Int.reduceGT, Int.reduceEq, Int.reduceNe, reduceCtorEq, b1]
  · have c := fun hp (hg : GOk hp) => ccheck_calls p hpf hp hg
    simp only [ProgG.av, ProgG.cs, declsAV, funsAV] at c
    refine callX_by (c _ hg) ?_
    clear c
    rintro r hp2 ⟨rfl, rfl⟩
    simp only [go_sem, Nat.reduceEqDiff, Nat.reduceAdd, Nat.reduceSub, Nat.reduceLT, Nat.reduceMul, Nat.reduceBEq, Nat.reduceLeDiff, ↓reduceIte, Int.reduceToNat, Nat.reduceGT, Int.reduceLE, Int.reduceLT, Int.reduceGE, Int.reduceGT, Int.reduceEq, Int.reduceNe, reduceCtorEq]
    have c := fun hp (hg : GOk hp) => cfault_calls p hpf hp hg
    simp only [ProgG.av, ProgG.cs, declsAV, funsAV] at c
    refine callX_by (c _ hg) ?_
    clear c
    intro r hp3 hR
    rw [FaultE] at hR
    by_cases hP : progB p = true
    · rw [if_pos hP] at hR
      cases e : faultF p.ds p.fs 0 p.fs with
      | none =>
        rw [e] at hR
        obtain ⟨rfl, rfl⟩ := hR
        have hc : checkN p = 0 := by rw [checkN, if_pos hP, typedB, e]; rfl
        simp only [go_sem, Nat.reduceEqDiff, Nat.reduceAdd, Nat.reduceSub, Nat.reduceLT, Nat.reduceMul, Nat.reduceBEq, Nat.reduceLeDiff, ↓reduceIte, Int.reduceToNat, Nat.reduceGT, Int.reduceLE, Int.reduceLT, Int.reduceGE, Int.reduceGT, Int.reduceEq, Int.reduceNe, reduceCtorEq]
        have c := fun hp => ris2_calls p hpf hp
        simp only [ProgG.av, ProgG.cs, declsAV, funsAV] at c
        refine callX_by (c _) ?_
        clear c
        rintro r hp4 ⟨rfl, rfl⟩
        simp only [go_sem, Nat.reduceEqDiff, Nat.reduceAdd, Nat.reduceSub, Nat.reduceLT, Nat.reduceMul, Nat.reduceBEq, Nat.reduceLeDiff, ↓reduceIte, Int.reduceToNat, Nat.reduceGT, Int.reduceLE, Int.reduceLT, Int.reduceGE, Int.reduceGT, Int.reduceEq, Int.reduceNe, reduceCtorEq, hP]
        have c := fun hp => rfault_calls hP hp
        simp only [ProgG.av, ProgG.cs, declsAV, funsAV] at c
        refine callX_by (c _) ?_
        clear c
        rintro r hp5 ⟨rfl, hr⟩
        rw [e] at hr
        subst hr
        simp only [go_sem, Nat.reduceEqDiff, Nat.reduceAdd, Nat.reduceSub, Nat.reduceLT, Nat.reduceMul, Nat.reduceBEq, Nat.reduceLeDiff, ↓reduceIte, Int.reduceToNat, Nat.reduceGT, Int.reduceLE, Int.reduceLT, Int.reduceGE, Int.reduceGT, Int.reduceEq, Int.reduceNe, reduceCtorEq, hc]
        have c : ACalls Tryz.prog 14 [.v (.slice none 0 0), .v (.slice none 0 0)] hp5 (fun r hp' => r = .v (.bool true) ∧ hp' = hp5) :=
          acalls_cast (args := [intsAV (.slice none 0 0) [], intsAV (.slice none 0 0) []]) rfl (fun m h => ⟨(Cast.nil 1).2 m trivial, (Cast.nil 1).2 m trivial, trivial⟩) (sameInts_calls (.slice none 0 0) (.slice none 0 0) [] [] hp5)
        refine callX_by c ?_
        clear c
        rintro r hp6 ⟨rfl, rfl⟩
        simp only [go_sem, Nat.reduceEqDiff, Nat.reduceAdd, Nat.reduceSub, Nat.reduceLT, Nat.reduceMul, Nat.reduceBEq, Nat.reduceLeDiff, ↓reduceIte, Int.reduceToNat, Nat.reduceGT, Int.reduceLE, Int.reduceLT, Int.reduceGE, Int.reduceGT, Int.reduceEq, Int.reduceNe, reduceCtorEq]
        refine callX_by (awake4_calls _ hg) ?_
        rintro r hp7 ⟨rfl, rfl⟩
        simp only [go_sem, Nat.reduceEqDiff, Nat.reduceAdd, Nat.reduceSub, Nat.reduceLT, Nat.reduceMul, Nat.reduceBEq, Nat.reduceLeDiff, ↓reduceIte, Int.reduceToNat, Nat.reduceGT, Int.reduceLE, Int.reduceLT, Int.reduceGE, Int.reduceGT, Int.reduceEq, Int.reduceNe, reduceCtorEq]
        exact ret_same ⟨rfl, rfl⟩
      | some x =>
        obtain ⟨i, q⟩ := x
        rw [e] at hR
        obtain ⟨h, rfl, rfl⟩ := hR
        have hc : checkN p = 40 := by rw [checkN, if_pos hP, typedB, e]; rfl
        simp only [go_sem, Nat.reduceEqDiff, Nat.reduceAdd, Nat.reduceSub, Nat.reduceLT, Nat.reduceMul, Nat.reduceBEq, Nat.reduceLeDiff, ↓reduceIte, Int.reduceToNat, Nat.reduceGT, Int.reduceLE, Int.reduceLT, Int.reduceGE, Int.reduceGT, Int.reduceEq, Int.reduceNe, reduceCtorEq]
        have c := fun hp => ris2_calls p hpf hp
        simp only [ProgG.av, ProgG.cs, declsAV, funsAV] at c
        refine callX_by (c _) ?_
        clear c
        rintro r hp4 ⟨rfl, rfl⟩
        simp only [go_sem, Nat.reduceEqDiff, Nat.reduceAdd, Nat.reduceSub, Nat.reduceLT, Nat.reduceMul, Nat.reduceBEq, Nat.reduceLeDiff, ↓reduceIte, Int.reduceToNat, Nat.reduceGT, Int.reduceLE, Int.reduceLT, Int.reduceGE, Int.reduceGT, Int.reduceEq, Int.reduceNe, reduceCtorEq, hP]
        have c := fun hp => rfault_calls hP hp
        simp only [ProgG.av, ProgG.cs, declsAV, funsAV] at c
        refine callX_by (c _) ?_
        clear c
        rintro r hp5 ⟨rfl, hr⟩
        rw [e] at hr
        obtain ⟨h', rfl⟩ := hr
        simp only [go_sem, Nat.reduceEqDiff, Nat.reduceAdd, Nat.reduceSub, Nat.reduceLT, Nat.reduceMul, Nat.reduceBEq, Nat.reduceLeDiff, ↓reduceIte, Int.reduceToNat, Nat.reduceGT, Int.reduceLE, Int.reduceLT, Int.reduceGE, Int.reduceGT, Int.reduceEq, Int.reduceNe, reduceCtorEq, hc]
        refine callX_by (sameInts_calls h h' q q _) ?_
        rintro r hp6 ⟨rfl, rfl⟩
        simp only [go_sem, Nat.reduceEqDiff, Nat.reduceAdd, Nat.reduceSub, Nat.reduceLT, Nat.reduceMul, Nat.reduceBEq, Nat.reduceLeDiff, ↓reduceIte, Int.reduceToNat, Nat.reduceGT, Int.reduceLE, Int.reduceLT, Int.reduceGE, Int.reduceGT, Int.reduceEq, Int.reduceNe, reduceCtorEq]
        refine callX_by (awake4_calls _ hg) ?_
        rintro r hp7 ⟨rfl, rfl⟩
        simp only [go_sem, Nat.reduceEqDiff, Nat.reduceAdd, Nat.reduceSub, Nat.reduceLT, Nat.reduceMul, Nat.reduceBEq, Nat.reduceLeDiff, ↓reduceIte, Int.reduceToNat, Nat.reduceGT, Int.reduceLE, Int.reduceLT, Int.reduceGE, Int.reduceGT, Int.reduceEq, Int.reduceNe, reduceCtorEq]
        exact ret_le (Hp.le_addSp _ _) ⟨rfl, rfl⟩
    · have hP' : progB p = false := by simpa using hP
      rw [if_neg hP] at hR
      obtain ⟨rfl, rfl⟩ := hR
      have hc : checkN p = 20 := by rw [checkN, if_neg hP]
      simp only [go_sem, Nat.reduceEqDiff, Nat.reduceAdd, Nat.reduceSub, Nat.reduceLT, Nat.reduceMul, Nat.reduceBEq, Nat.reduceLeDiff, ↓reduceIte, Int.reduceToNat, Nat.reduceGT, Int.reduceLE, Int.reduceLT, Int.reduceGE, Int.reduceGT, Int.reduceEq, Int.reduceNe, reduceCtorEq]
      have c := fun hp => ris2_calls p hpf hp
      simp only [ProgG.av, ProgG.cs, declsAV, funsAV] at c
      refine callX_by (c _) ?_
      clear c
      rintro r hp4 ⟨rfl, rfl⟩
      simp only [go_sem, Nat.reduceEqDiff, Nat.reduceAdd, Nat.reduceSub, Nat.reduceLT, Nat.reduceMul, Nat.reduceBEq, Nat.reduceLeDiff, ↓reduceIte, Int.reduceToNat, Nat.reduceGT, Int.reduceLE, Int.reduceLT, Int.reduceGE, Int.reduceGT, Int.reduceEq, Int.reduceNe, reduceCtorEq, hP', hc]
      refine callX_by (awake4_calls _ hg) ?_
      rintro r hp5 ⟨rfl, rfl⟩
      simp only [go_sem, Nat.reduceEqDiff, Nat.reduceAdd, Nat.reduceSub, Nat.reduceLT, Nat.reduceMul, Nat.reduceBEq, Nat.reduceLeDiff, ↓reduceIte, Int.reduceToNat, Nat.reduceGT, Int.reduceLE, Int.reduceLT, Int.reduceGE, Int.reduceGT, Int.reduceEq, Int.reduceNe, reduceCtorEq]
      exact ret_same ⟨rfl, rfl⟩
  · refine callX_by (awake4_calls _ hg) ?_
    rintro r hp5 ⟨rfl, rfl⟩
    simp only [go_sem, Nat.reduceEqDiff, Nat.reduceAdd, Nat.reduceSub, Nat.reduceLT, Nat.reduceMul, Nat.reduceBEq, Nat.reduceLeDiff, ↓reduceIte, Int.reduceToNat, Nat.reduceGT, Int.reduceLE, Int.reduceLT, Int.reduceGE, Int.reduceGT, Int.reduceEq, Int.reduceNe, reduceCtorEq]
    exact ret_same ⟨rfl, rfl⟩
theorem isB_eq (p : ProgG) (V L : Bytes → Bool) (t : TermG) : isB p V L t = ((decide (nodesT t ≤ 600) && decide (depthT t ≤ 24)) && validT p.ds p.pf V L t) := by
  rw [isB, okB]
  have e1 : decide ((nodesT t : Int) ≤ 600) = decide (nodesT t ≤ 600) := decide_eq_decide.2 (by omega)
  have e2 : decide (1 + (depthT t : Int) ≤ 25) = decide (depthT t ≤ 24) := decide_eq_decide.2 (by omega)
  rw [e1, e2, Bool.and_assoc]
theorem typeN_bad {p : ProgG} {V L : List ParamG} {t : TermG} (hp : progB p = true) (h : ((typesB p.ds V && typesB p.ds L) && isB p (hasB (namesP V)) (hasB (namesP L)) t) = false) : typeN p V L t = (0, 1) := by
  rw [typeN, if_pos hp]
  cases h1 : (typesB p.ds V && typesB p.ds L) with
  | false => rfl
  | true => rw [h1, Bool.true_and] at h; simp [h]
theorem typeN_good {p : ProgG} {V L : List ParamG} {t : TermG} (hp : progB p = true) (h1 : (typesB p.ds V && typesB p.ds L) = true) (h2 : isB p (hasB (namesP V)) (hasB (namesP L)) t = true) : typeN p V L t = match typeT p.ds p.fs (envP V) (envP L) t with | .ok n => (n, 0) | .error _ => (0, 40) := by
  rw [typeN, if_pos hp, if_pos h1, if_pos h2]
  cases typeT p.ds p.fs (envP V) (envP L) t <;> rfl
theorem checkTypes_calls (p : ProgG) (hpf : PFit p) (h1 h2 : Value) (V L : List ParamG) (t : TermG) (hV : V.length ≤ 5864062014634) (hL : L.length ≤ 5864062014634) (hp : Hp) (hg : GOk hp) :
    ACalls Tryz.prog 4 [p.av, paramsAV h1 V, paramsAV h2 L, t.av] hp (fun r hp' => r = .v (.bool true) ∧ hp' = hp) := by
  refine acalls_of Tryz.func4 rfl (by decide +kernel) (awp_sound (mu := []) _ _ _ ?_)
  simp only [go_sem, Nat.reduceEqDiff, Nat.reduceAdd, Nat.reduceSub, Nat.reduceLT, Nat.reduceMul, Nat.reduceBEq, Nat.reduceLeDiff, ↓reduceIte, Int.reduceToNat, Nat.reduceGT, Int.reduceLE, Int.reduceLT, Int.reduceGE, Int.reduceGT, Int.reduceEq, Int.reduceNe, reduceCtorEq, ProgG.av, ProgG.cs, declsAV, funsAV, TermG.av, TermG.cs_eq, paramsAV]
  intro q1 q2
  have aw : ∀ hp, GOk hp → ACalls Tryz.prog 9 [] hp (fun r hp' => r = .v (.bool true) ∧ hp' = hp) := fun hp hg => awake4_calls hp hg
  have c := fun hp => few_calls p 700 (by omega) hp
  simp only [ProgG.av, ProgG.cs, declsAV, funsAV] at c
  refine callX_by (c _) ?_
  clear c
  rintro r hp1 ⟨rfl, rfl⟩
  simp only [go_sem, Nat.reduceEqDiff, Nat.reduceAdd, Nat.reduceSub, Nat.reduceLT, Nat.reduceMul, Nat.reduceBEq, Nat.reduceLeDiff, ↓reduceIte, Int.reduceToNat, Nat.reduceGT, Int.reduceLE, Int.reduceLT, Int.reduceGE, Int.reduceGT, Int.reduceEq, Int.reduceNe, reduceCtorEq]
  refine brK_mk (fun b1 => ?_) (fun b1 => ?_) <;> simp only [go_sem, Nat.reduceEqDiff, Nat.reduceAdd, Nat.reduceSub, Nat.reduceLT, Nat.reduceMul, Nat.reduceBEq, Nat.reduceLeDiff, ↓reduceIte, Int.reduceToNat, Nat.reduceGT, Int.reduceLE, Int.reduceLT, Int.reduceGE, Int.reduceGT, Int.reduceEq, Int.reduceNe, reduceCtorEq, b1]
  · have c := fun hp => fits_t_calls t 700 (by omega) hp
    simp only [TermG.av, TermG.cs_eq] at c
    refine callX_by (c _) ?_
    clear c
    rintro r hp1 ⟨rfl, rfl⟩
    simp only [go_sem, Nat.reduceEqDiff, Nat.reduceAdd, Nat.reduceSub, Nat.reduceLT, Nat.reduceMul, Nat.reduceBEq, Nat.reduceLeDiff, ↓reduceIte, Int.reduceToNat, Nat.reduceGT, Int.reduceLE, Int.reduceLT, Int.reduceGE, Int.reduceGT, Int.reduceEq, Int.reduceNe, reduceCtorEq]
    refine brK_mk (fun b2 => ?_) (fun b2 => ?_) <;> simp only [go_sem, Nat.reduceEqDiff, Nat.reduceAdd, Nat.reduceSub, Nat.reduceLT, Nat.reduceMul, Nat.reduceBEq, Nat.reduceLeDiff, ↓reduceIte, Int.reduceToNat, Nat.reduceGT, Int.reduceLE, Int.reduceLT, Int.reduceGE, Int.reduceGT, Int.reduceEq, Int.reduceNe, reduceCtorEq, b2]
    · have c := fun hp (hg : GOk hp) => ctype_calls p hpf h1 h2 V L hV hL t hp hg
      simp only [ProgG.av, ProgG.cs, declsAV, funsAV, TermG.av, TermG.cs_eq, paramsAV] at c
      refine callX_by (c _ hg) ?_
      clear c
      rintro r hp2 ⟨rfl, rfl⟩
      simp only [go_sem, Nat.reduceEqDiff, Nat.reduceAdd, Nat.reduceSub, Nat.reduceLT, Nat.reduceMul, Nat.reduceBEq, Nat.reduceLeDiff, ↓reduceIte, Int.reduceToNat, Nat.reduceGT, Int.reduceLE, Int.reduceLT, Int.reduceGE, Int.reduceGT, Int.reduceEq, Int.reduceNe, reduceCtorEq]
      have c := fun hp => ris2_calls p hpf hp
      simp only [ProgG.av, ProgG.cs, declsAV, funsAV] at c
      refine callX_by (c _) ?_
      clear c
      rintro r hp4 ⟨rfl, rfl⟩
      simp only [go_sem, Nat.reduceEqDiff, Nat.reduceAdd, Nat.reduceSub, Nat.reduceLT, Nat.reduceMul, Nat.reduceBEq, Nat.reduceLeDiff, ↓reduceIte, Int.reduceToNat, Nat.reduceGT, Int.reduceLE, Int.reduceLT, Int.reduceGE, Int.reduceGT, Int.reduceEq, Int.reduceNe, reduceCtorEq]
      refine brK_mk (fun b3 => ?_) (fun b3 => ?_) <;> simp only [go_sem, Nat.reduceEqDiff, Nat.reduceAdd, Nat.reduceSub, Nat.reduceLT, Nat.reduceMul, Nat.reduceBEq, Nat.reduceLeDiff, ↓reduceIte, Int.reduceToNat, Nat.reduceGT, Int.reduceLE, Int.reduceLT, Int.reduceGE, Int.reduceGT, Int.reduceEq, Int.reduceNe, reduceCtorEq, b3]
      · have ok := prog_ok b3
        have hok2 := b3
        rw [is_same, Bool.and_eq_true, Bool.and_eq_true] at hok2
        have pre : PreR p := ⟨ok.hsm, ok.hdl, hok2.1.2⟩
        have ht700 : nodesT t ≤ 700 := of_decide_eq_true b2
        refine draw_by (mu := []) (fun _ => True) (.take 0 (.take 1 (.br 2 (.take 3 (.take 4 (.take 5 (.take 6 (.br 7 (.take 8 (.take 9 (.take 10 (.take 11 (.br 12 (.take 13 (.take 14 (.take 15 (.take 16 (.take 17 (.take 19 (.take 21 (.br 18 (.br 20 (.br 22 (.take 23 (.take 24 (.done))) (.stop)) (.stop)) (.stop))))))))) (.stop)))))) (.stop)))))) (.stop)))) (by decide +kernel) trivial (by decide +kernel) (by decide +kernel) ?_
        simp only [go_sem, Nat.reduceEqDiff, Nat.reduceAdd, Nat.reduceSub, Nat.reduceLT, Nat.reduceMul, Nat.reduceBEq, Nat.reduceLeDiff, ↓reduceIte, Int.reduceToNat, Nat.reduceGT, Int.reduceLE, Int.reduceLT, Int.reduceGE, Int.reduceGT, Int.reduceEq, Int.reduceNe, reduceCtorEq]
        have ct := fun (h : Value) (l : List ParamG) hp => types_calls p h l hp
        simp only [ProgG.av, ProgG.cs, declsAV, funsAV, paramsAV] at ct
        refine callX_by (ct _ _ _) ?_
        rintro r hp5 ⟨rfl, rfl⟩
        simp only [go_sem, Nat.reduceEqDiff, Nat.reduceAdd, Nat.reduceSub, Nat.reduceLT, Nat.reduceMul, Nat.reduceBEq, Nat.reduceLeDiff, ↓reduceIte, Int.reduceToNat, Nat.reduceGT, Int.reduceLE, Int.reduceLT, Int.reduceGE, Int.reduceGT, Int.reduceEq, Int.reduceNe, reduceCtorEq]
        refine brK_mk (fun b4 => ?_) (fun b4 => ?_) <;> simp only [go_sem, Nat.reduceEqDiff, Nat.reduceAdd, Nat.reduceSub, Nat.reduceLT, Nat.reduceMul, Nat.reduceBEq, Nat.reduceLeDiff, ↓reduceIte, Int.reduceToNat, Nat.reduceGT, Int.reduceLE, Int.reduceLT, Int.reduceGE, Int.reduceGT, Int.reduceEq, Int.reduceNe, reduceCtorEq, b4]
        · refine callX_by (ct _ _ _) ?_
          rintro r hp6 ⟨rfl, rfl⟩
          simp only [go_sem, Nat.reduceEqDiff, Nat.reduceAdd, Nat.reduceSub, Nat.reduceLT, Nat.reduceMul, Nat.reduceBEq, Nat.reduceLeDiff, ↓reduceIte, Int.reduceToNat, Nat.reduceGT, Int.reduceLE, Int.reduceLT, Int.reduceGE, Int.reduceGT, Int.reduceEq, Int.reduceNe, reduceCtorEq]
          refine brK_mk (fun b5 => ?_) (fun b5 => ?_) <;> simp only [go_sem, Nat.reduceEqDiff, Nat.reduceAdd, Nat.reduceSub, Nat.reduceLT, Nat.reduceMul, Nat.reduceBEq, Nat.reduceLeDiff, ↓reduceIte, Int.reduceToNat, Nat.reduceGT, Int.reduceLE, Int.reduceLT, Int.reduceGE, Int.reduceGT, Int.reduceEq, Int.reduceNe, reduceCtorEq, b5]
          · have c := fun hp => small_calls t hp
            simp only [TermG.av, TermG.cs_eq] at c
            refine callX_by (c _) ?_
            clear c
            rintro r hp7 ⟨rfl, rfl⟩
            simp only [go_sem, Nat.reduceEqDiff, Nat.reduceAdd, Nat.reduceSub, Nat.reduceLT, Nat.reduceMul, Nat.reduceBEq, Nat.reduceLeDiff, ↓reduceIte, Int.reduceToNat, Nat.reduceGT, Int.reduceLE, Int.reduceLT, Int.reduceGE, Int.reduceGT, Int.reduceEq, Int.reduceNe, reduceCtorEq]
            refine brK_mk (fun b6 => ?_) (fun b6 => ?_) <;> simp only [go_sem, Nat.reduceEqDiff, Nat.reduceAdd, Nat.reduceSub, Nat.reduceLT, Nat.reduceMul, Nat.reduceBEq, Nat.reduceLeDiff, ↓reduceIte, Int.reduceToNat, Nat.reduceGT, Int.reduceLE, Int.reduceLT, Int.reduceGE, Int.reduceGT, Int.reduceEq, Int.reduceNe, reduceCtorEq, b6]
            · have hd24 : nodesT t ≤ 600 ∧ depthT t ≤ 24 := by simpa using b6
              have cpV := fun hp => rparams_calls h1 V hV hp
              have cpL := fun hp => rparams_calls h2 L hL hp
              simp only [paramsAV] at cpV cpL
              have cv := fun (ha hb : Value) hp => rvalid_calls pre (nodesT t) t (Nat.le_refl _) ha hb (V.map ParamG.name) (L.map ParamG.name) (by rw [List.length_map]; omega) (by rw [List.length_map]; omega) hp
              simp only [ProgG.av, ProgG.cs, declsAV, funsAV, TermG.av, TermG.cs_eq] at cv
              refine callX_by (cpV _) ?_
              rintro r hp8 ⟨ha, rfl, rfl⟩
              simp only [go_sem, Nat.reduceEqDiff, Nat.reduceAdd, Nat.reduceSub, Nat.reduceLT, Nat.reduceMul, Nat.reduceBEq, Nat.reduceLeDiff, ↓reduceIte, Int.reduceToNat, Nat.reduceGT, Int.reduceLE, Int.reduceLT, Int.reduceGE, Int.reduceGT, Int.reduceEq, Int.reduceNe, reduceCtorEq]
              refine callX_by (cpL _) ?_
              rintro r hp8 ⟨hb, rfl, rfl⟩
              simp only [go_sem, Nat.reduceEqDiff, Nat.reduceAdd, Nat.reduceSub, Nat.reduceLT, Nat.reduceMul, Nat.reduceBEq, Nat.reduceLeDiff, ↓reduceIte, Int.reduceToNat, Nat.reduceGT, Int.reduceLE, Int.reduceLT, Int.reduceGE, Int.reduceGT, Int.reduceEq, Int.reduceNe, reduceCtorEq]
              refine callX_by (cv ha hb _) ?_
              rintro r hp8 ⟨rfl, rfl⟩
              simp only [go_sem, Nat.reduceEqDiff, Nat.reduceAdd, Nat.reduceSub, Nat.reduceLT, Nat.reduceMul, Nat.reduceBEq, Nat.reduceLeDiff, ↓reduceIte, Int.reduceToNat, Nat.reduceGT, Int.reduceLE, Int.reduceLT, Int.reduceGE, Int.reduceGT, Int.reduceEq, Int.reduceNe, reduceCtorEq]
              refine brK_mk (fun b7 => ?_) (fun b7 => ?_) <;> simp only [go_sem, Nat.reduceEqDiff, Nat.reduceAdd, Nat.reduceSub, Nat.reduceLT, Nat.reduceMul, Nat.reduceBEq, Nat.reduceLeDiff, ↓reduceIte, Int.reduceToNat, Nat.reduceGT, Int.reduceLE, Int.reduceLT, Int.reduceGE, Int.reduceGT, Int.reduceEq, Int.reduceNe, reduceCtorEq, b7]
              · have hva : validT p.ds p.pf (domB (envP V)) (domB (envP L)) t = true := by rw [dom_params, dom_params]; exact b7
                have hi : isB p (hasB (namesP V)) (hasB (namesP L)) t = true := by rw [isB_eq, b6, Bool.true_and]; exact b7
                have e := typeN_good (V := V) (L := L) (t := t) b3 (by rw [b4, b5]; rfl) hi
                have c := fun hp => rtype_calls ok h1 h2 V L t (by omega) hva (by omega) (by omega) hp
                simp only [ProgG.av, ProgG.cs, declsAV, funsAV, TermG.av, TermG.cs_eq, paramsAV] at c
                refine callX_by (c _) ?_
                clear c
                rintro r hp9 ⟨rfl, hr⟩
                cases et : typeT p.ds p.fs (envP V) (envP L) t with
                | ok n =>
                  rw [et] at hr e
                  simp only at hr e
                  subst hr
                  simp only [go_sem, Nat.reduceEqDiff, Nat.reduceAdd, Nat.reduceSub, Nat.reduceLT, Nat.reduceMul, Nat.reduceBEq, Nat.reduceLeDiff, ↓reduceIte, Int.reduceToNat, Nat.reduceGT, Int.reduceLE, Int.reduceLT, Int.reduceGE, Int.reduceGT, Int.reduceEq, Int.reduceNe, reduceCtorEq, e]
                  refine callX_by (aw _ hg) ?_
                  rintro r hp9 ⟨rfl, rfl⟩
                  simp only [go_sem, Nat.reduceEqDiff, Nat.reduceAdd, Nat.reduceSub, Nat.reduceLT, Nat.reduceMul, Nat.reduceBEq, Nat.reduceLeDiff, ↓reduceIte, Int.reduceToNat, Nat.reduceGT, Int.reduceLE, Int.reduceLT, Int.reduceGE, Int.reduceGT, Int.reduceEq, Int.reduceNe, reduceCtorEq]
                  exact ret_same ⟨rfl, rfl⟩
                | error q =>
                  rw [et] at hr e
                  simp only at hr e
                  subst hr
                  simp only [go_sem, Nat.reduceEqDiff, Nat.reduceAdd, Nat.reduceSub, Nat.reduceLT, Nat.reduceMul, Nat.reduceBEq, Nat.reduceLeDiff, ↓reduceIte, Int.reduceToNat, Nat.reduceGT, Int.reduceLE, Int.reduceLT, Int.reduceGE, Int.reduceGT, Int.reduceEq, Int.reduceNe, reduceCtorEq, e]
                  refine callX_by (aw _ hg) ?_
                  rintro r hp9 ⟨rfl, rfl⟩
                  simp only [go_sem, Nat.reduceEqDiff, Nat.reduceAdd, Nat.reduceSub, Nat.reduceLT, Nat.reduceMul, Nat.reduceBEq, Nat.reduceLeDiff, ↓reduceIte, Int.reduceToNat, Nat.reduceGT, Int.reduceLE, Int.reduceLT, Int.reduceGE, Int.reduceGT, Int.reduceEq, Int.reduceNe, reduceCtorEq]
                  exact ret_same ⟨rfl, rfl⟩
              · have e := typeN_bad (V := V) (L := L) (t := t) b3 (by rw [b4, b5, isB_eq, b6, namesP, namesP, b7]; rfl)
                simp only [go_sem, Nat.reduceEqDiff, Nat.reduceAdd, Nat.reduceSub, Nat.reduceLT, Nat.reduceMul, Nat.reduceBEq, Nat.reduceLeDiff, ↓reduceIte, Int.reduceToNat, Nat.reduceGT, Int.reduceLE, Int.reduceLT, Int.reduceGE, Int.reduceGT, Int.reduceEq, Int.reduceNe, reduceCtorEq, e]
                refine callX_by (aw _ hg) ?_
                rintro r hp9 ⟨rfl, rfl⟩
                simp only [go_sem, Nat.reduceEqDiff, Nat.reduceAdd, Nat.reduceSub, Nat.reduceLT, Nat.reduceMul, Nat.reduceBEq, Nat.reduceLeDiff, ↓reduceIte, Int.reduceToNat, Nat.reduceGT, Int.reduceLE, Int.reduceLT, Int.reduceGE, Int.reduceGT, Int.reduceEq, Int.reduceNe, reduceCtorEq]
                exact ret_same ⟨rfl, rfl⟩
            · have e := typeN_bad (V := V) (L := L) (t := t) b3 (by rw [b4, b5, isB_eq, b6, Bool.false_and, Bool.and_false])
              simp only [go_sem, Nat.reduceEqDiff, Nat.reduceAdd, Nat.reduceSub, Nat.reduceLT, Nat.reduceMul, Nat.reduceBEq, Nat.reduceLeDiff, ↓reduceIte, Int.reduceToNat, Nat.reduceGT, Int.reduceLE, Int.reduceLT, Int.reduceGE, Int.reduceGT, Int.reduceEq, Int.reduceNe, reduceCtorEq, e]
              refine callX_by (aw _ hg) ?_
              rintro r hp9 ⟨rfl, rfl⟩
              simp only [go_sem, Nat.reduceEqDiff, Nat.reduceAdd, Nat.reduceSub, Nat.reduceLT, Nat.reduceMul, Nat.reduceBEq, Nat.reduceLeDiff, ↓reduceIte, Int.reduceToNat, Nat.reduceGT, Int.reduceLE, Int.reduceLT, Int.reduceGE, Int.reduceGT, Int.reduceEq, Int.reduceNe, reduceCtorEq]
              exact ret_same ⟨rfl, rfl⟩
          · have e := typeN_bad (V := V) (L := L) (t := t) b3 (by rw [b4, b5, Bool.and_false, Bool.false_and])
            simp only [go_sem, Nat.reduceEqDiff, Nat.reduceAdd, Nat.reduceSub, Nat.reduceLT, Nat.reduceMul, Nat.reduceBEq, Nat.reduceLeDiff, ↓reduceIte, Int.reduceToNat, Nat.reduceGT, Int.reduceLE, Int.reduceLT, Int.reduceGE, Int.reduceGT, Int.reduceEq, Int.reduceNe, reduceCtorEq, e]
            refine callX_by (aw _ hg) ?_
            rintro r hp9 ⟨rfl, rfl⟩
            simp only [go_sem, Nat.reduceEqDiff, Nat.reduceAdd, Nat.reduceSub, Nat.reduceLT, Nat.reduceMul, Nat.reduceBEq, Nat.reduceLeDiff, ↓reduceIte, Int.reduceToNat, Nat.reduceGT, Int.reduceLE, Int.reduceLT, Int.reduceGE, Int.reduceGT, Int.reduceEq, Int.reduceNe, reduceCtorEq]
            exact ret_same ⟨rfl, rfl⟩
        · have e := typeN_bad (V := V) (L := L) (t := t) b3 (by rw [b4, Bool.false_and, Bool.false_and])
          simp only [go_sem, Nat.reduceEqDiff, Nat.reduceAdd, Nat.reduceSub, Nat.reduceLT, Nat.reduceMul, Nat.reduceBEq, Nat.reduceLeDiff, ↓reduceIte, Int.reduceToNat, Nat.reduceGT, Int.reduceLE, Int.reduceLT, Int.reduceGE, Int.reduceGT, Int.reduceEq, Int.reduceNe, reduceCtorEq, e]
          refine callX_by (aw _ hg) ?_
          rintro r hp9 ⟨rfl, rfl⟩
          simp only [go_sem, Nat.reduceEqDiff, Nat.reduceAdd, Nat.reduceSub, Nat.reduceLT, Nat.reduceMul, Nat.reduceBEq, Nat.reduceLeDiff, ↓reduceIte, Int.reduceToNat, Nat.reduceGT, Int.reduceLE, Int.reduceLT, Int.reduceGE, Int.reduceGT, Int.reduceEq, Int.reduceNe, reduceCtorEq]
          exact ret_same ⟨rfl, rfl⟩
      · have hP : ¬ progB p = true := by rw [b3]; decide
        have e : typeN p V L t = (0, 20) := by rw [typeN, if_neg hP]
        simp only [go_sem, Nat.reduceEqDiff, Nat.reduceAdd, Nat.reduceSub, Nat.reduceLT, Nat.reduceMul, Nat.reduceBEq, Nat.reduceLeDiff, ↓reduceIte, Int.reduceToNat, Nat.reduceGT, Int.reduceLE, Int.reduceLT, Int.reduceGE, Int.reduceGT, Int.reduceEq, Int.reduceNe, reduceCtorEq, e]
        refine callX_by (aw _ hg) ?_
        rintro r hp5 ⟨rfl, rfl⟩
        simp only [go_sem, Nat.reduceEqDiff, Nat.reduceAdd, Nat.reduceSub, Nat.reduceLT, Nat.reduceMul, Nat.reduceBEq, Nat.reduceLeDiff, ↓reduceIte, Int.reduceToNat, Nat.reduceGT, Int.reduceLE, Int.reduceLT, Int.reduceGE, Int.reduceGT, Int.reduceEq, Int.reduceNe, reduceCtorEq]
        exact ret_same ⟨rfl, rfl⟩
    · refine callX_by (aw _ hg) ?_
      rintro r hp5 ⟨rfl, rfl⟩
      simp only [go_sem, Nat.reduceEqDiff, Nat.reduceAdd, Nat.reduceSub, Nat.reduceLT, Nat.reduceMul, Nat.reduceBEq, Nat.reduceLeDiff, ↓reduceIte, Int.reduceToNat, Nat.reduceGT, Int.reduceLE, Int.reduceLT, Int.reduceGE, Int.reduceGT, Int.reduceEq, Int.reduceNe, reduceCtorEq]
      exact ret_same ⟨rfl, rfl⟩
  · refine callX_by (aw _ hg) ?_
    rintro r hp5 ⟨rfl, rfl⟩
    simp only [go_sem, Nat.reduceEqDiff, Nat.reduceAdd, Nat.reduceSub, Nat.reduceLT, Nat.reduceMul, Nat.reduceBEq, Nat.reduceLeDiff, ↓reduceIte, Int.reduceToNat, Nat.reduceGT, Int.reduceLE, Int.reduceLT, Int.reduceGE, Int.reduceGT, Int.reduceEq, Int.reduceNe, reduceCtorEq]
    exact ret_same ⟨rfl, rfl⟩
end Go.Proofs.YtppoacgeiooppaaGreat
