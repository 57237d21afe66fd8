/- The law of the layer 'check': CheckOne. -/
import Derived.Test.YtppoacgeiooppaaCT44
import Derived.Test.YtppoacgeiooppaaCT45
import Derived.Test.YtppoacgeiooppaaCT27
set_option linter.unusedSimpArgs false
set_option linter.unusedVariables false
set_option maxRecDepth 20000
set_option maxHeartbeats 4000000
namespace Go.Proofs.Ytppoacgeiooppaa
open Go.AL

theorem let_cast {f : FuncId} {pre : List AV} {h : Value} {u : Int} {t : TermG} {hp : Hp} {R : AV → Hp → Prop} (c : ACalls Try.prog f (pre ++ [(letT h u t).av]) hp R) :
    ACalls Try.prog f (pre ++ [.agg [.v (.int .i64 8), .v (.int .i64 0), .v (.string (bs [122, 122])), .v (.int .i64 u), .lst 6 h [t.av, .agg [.v (.int .i64 0), .v (.int .i64 0), .v (.string (bs [122, 122])), .v (.int .i64 0), .v (.slice none 0 0), .v (.slice none 0 0)]], .v (.slice none 0 0)]]) hp R := by
  refine acalls_cast (args := pre ++ [(letT h u t).av]) ?_ (fun m ho => ?_) c
  · rw [AV.vals_append, AV.vals_append]
    simp only [letT, zzV, TermG.av, TermG.cs_eq, TermG.op, TermG.n, TermG.name, TermG.ty, TermG.ha, TermG.hc, TermG.args, TermG.cls, List.map_cons, List.map_nil, AV.vals, AV.val]
  · rw [AV.oks_iff] at ho ⊢
    intro a ha
    rcases List.mem_append.1 ha with ha | ha
    · exact ho a (List.mem_append_left _ ha)
    · have h1 := ho _ (List.mem_append_right _ (List.mem_singleton.2 rfl))
      obtain rfl := List.mem_singleton.1 ha
      obtain ⟨_, _, _, _, ⟨hh, ht, _, _⟩, _, _⟩ := h1
      show AV.oks m (TermG.cs (letT h u t))
      rw [TermG.cs_eq]
      refine ⟨trivial, trivial, trivial, trivial, ⟨hh, ht, ?_, trivial⟩, (Cast.nil 7).2 m trivial, trivial⟩
      show AV.oks m (TermG.cs zzV)
      rw [TermG.cs_eq]
      exact ⟨trivial, trivial, trivial, trivial, (Cast.nil 6).2 m trivial, (Cast.nil 7).2 m trivial, trivial⟩
theorem only_le (l : List ParamG) (names : List Bytes) : (onlyP l names).length ≤ l.length := List.length_filter_le _ _
theorem checkOne_calls (p : ProgG) (hpf : PFit p) (h1 h2 h3 : Value) (V L M : List ParamG) (t : TermG) (hV : V.length ≤ 2000000) (hL : L.length ≤ 2000000) (hM : M.length ≤ 2000000) (hnm : nmT t ≤ 2000000) (hp : Hp) (hg : GOk hp) :
    ACalls Try.prog 3 [p.av, paramsAV h1 V, paramsAV h2 L, paramsAV h3 M, t.av] hp (fun r hp' => r = .v (.bool true) ∧ hp' = hp) := by
  refine acalls_of Try.func3 rfl (by decide +kernel) (awp_sound (mu := []) _ _ _ ?_)
  simp only [go_sem, Nat.reduceEqDiff, Nat.reduceAdd, Nat.reduceSub, Nat.reduceLT, Nat.reduceMul, Nat.reduceBEq, Nat.reduceLeDiff, ↓reduceIte, Int.reduceToNat, Nat.reduceGT, Int.reduceLE, Int.reduceLT, Int.reduceGE, Int.reduceGT, Int.reduceEq, Int.reduceNe, reduceCtorEq, ProgG.av, ProgG.cs, declsAV, funsAV, TermG.av, TermG.cs_eq, paramsAV]
  intro q1 q2
  have aw : ∀ hp, GOk hp → ACalls Try.prog 9 [] hp (fun r hp' => r = .v (.bool true) ∧ hp' = hp) := fun hp hg => awake4_calls hp hg
  have ct := fun (ha hb : Value) (A B : List ParamG) (x : TermG) (hA : A.length ≤ 5864062014634) (hB : B.length ≤ 5864062014634) hp (hg : GOk hp) => ctype_calls p hpf ha hb A B hA hB x hp hg
  simp only [ProgG.av, ProgG.cs, declsAV, funsAV, TermG.av, TermG.cs_eq, paramsAV] at ct
  have c := fun hp => few_calls p 700 (by omega) hp
  simp only [ProgG.av, ProgG.cs, declsAV, funsAV] at c
  refine callX_by (c _) ?_
  clear c
  rintro r hp1 ⟨rfl, rfl⟩
  simp only [go_sem, Nat.reduceEqDiff, Nat.reduceAdd, Nat.reduceSub, Nat.reduceLT, Nat.reduceMul, Nat.reduceBEq, Nat.reduceLeDiff, ↓reduceIte, Int.reduceToNat, Nat.reduceGT, Int.reduceLE, Int.reduceLT, Int.reduceGE, Int.reduceGT, Int.reduceEq, Int.reduceNe, reduceCtorEq]
  refine brK_mk (fun b1 => ?_) (fun b1 => ?_) <;> simp only [go_sem, Nat.reduceEqDiff, Nat.reduceAdd, Nat.reduceSub, Nat.reduceLT, Nat.reduceMul, Nat.reduceBEq, Nat.reduceLeDiff, ↓reduceIte, Int.reduceToNat, Nat.reduceGT, Int.reduceLE, Int.reduceLT, Int.reduceGE, Int.reduceGT, Int.reduceEq, Int.reduceNe, reduceCtorEq, b1]
  · have c := fun hp => fits_t_calls t 700 (by omega) hp
    simp only [TermG.av, TermG.cs_eq] at c
    refine callX_by (c _) ?_
    clear c
    rintro r hp1 ⟨rfl, rfl⟩
    simp only [go_sem, Nat.reduceEqDiff, Nat.reduceAdd, Nat.reduceSub, Nat.reduceLT, Nat.reduceMul, Nat.reduceBEq, Nat.reduceLeDiff, ↓reduceIte, Int.reduceToNat, Nat.reduceGT, Int.reduceLE, Int.reduceLT, Int.reduceGE, Int.reduceGT, Int.reduceEq, Int.reduceNe, reduceCtorEq]
    refine brK_mk (fun b2 => ?_) (fun b2 => ?_) <;> simp only [go_sem, Nat.reduceEqDiff, Nat.reduceAdd, Nat.reduceSub, Nat.reduceLT, Nat.reduceMul, Nat.reduceBEq, Nat.reduceLeDiff, ↓reduceIte, Int.reduceToNat, Nat.reduceGT, Int.reduceLE, Int.reduceLT, Int.reduceGE, Int.reduceGT, Int.reduceEq, Int.reduceNe, reduceCtorEq, b2]
    · have ht700 : nodesT t ≤ 700 := of_decide_eq_true b2
      refine callX_by (ct h1 h2 V L t (by omega) (by omega) _ hg) ?_
      rintro r hp2 ⟨rfl, rfl⟩
      obtain ⟨n0, e0, hT⟩ : ∃ n e, typeN p V L t = (n, e) := ⟨_, _, rfl⟩
      simp only [go_sem, Nat.reduceEqDiff, Nat.reduceAdd, Nat.reduceSub, Nat.reduceLT, Nat.reduceMul, Nat.reduceBEq, Nat.reduceLeDiff, ↓reduceIte, Int.reduceToNat, Nat.reduceGT, Int.reduceLE, Int.reduceLT, Int.reduceGE, Int.reduceGT, Int.reduceEq, Int.reduceNe, reduceCtorEq, hT]
      by_cases hbad : e0 ≠ 0 ∧ e0 ≠ 40
      · have hz := not_asked (p := p) (V := V) (L := L) (t := t) (by rw [hT]; exact hbad.1) (by rw [hT]; exact hbad.2)
        rw [hT] at hz
        simp only at hz
        subst hz
        simp only [go_sem, Nat.reduceEqDiff, Nat.reduceAdd, Nat.reduceSub, Nat.reduceLT, Nat.reduceMul, Nat.reduceBEq, Nat.reduceLeDiff, ↓reduceIte, Int.reduceToNat, Nat.reduceGT, Int.reduceLE, Int.reduceLT, Int.reduceGE, Int.reduceGT, Int.reduceEq, Int.reduceNe, reduceCtorEq, decide_eq_false hbad.1, decide_eq_false hbad.2]
        refine callX_by (aw _ hg) ?_
        rintro r hp9 ⟨rfl, rfl⟩
        simp only [go_sem, Nat.reduceEqDiff, Nat.reduceAdd, Nat.reduceSub, Nat.reduceLT, Nat.reduceMul, Nat.reduceBEq, Nat.reduceLeDiff, ↓reduceIte, Int.reduceToNat, Nat.reduceGT, Int.reduceLE, Int.reduceLT, Int.reduceGE, Int.reduceGT, Int.reduceEq, Int.reduceNe, reduceCtorEq]
        exact ret_same ⟨rfl, rfl⟩
      · have hgood : e0 = 0 ∨ e0 = 40 := by omega
        have a : Asked p V L t := asked_of (by rw [hT]; exact hgood)
        have hon := typeN_only a
        rw [hT] at hon
        have step : ∀ (A B : Prop) (d : Fix (A ∧ B)), True := fun _ _ _ => trivial
        have main : True := trivial
        rcases hgood with rfl | rfl
        · simp only [go_sem, Nat.reduceEqDiff, Nat.reduceAdd, Nat.reduceSub, Nat.reduceLT, Nat.reduceMul, Nat.reduceBEq, Nat.reduceLeDiff, ↓reduceIte, Int.reduceToNat, Nat.reduceGT, Int.reduceLE, Int.reduceLT, Int.reduceGE, Int.reduceGT, Int.reduceEq, Int.reduceNe, reduceCtorEq]
          have c := fun hp => rfreeT_calls t (by omega) (by omega) hp
          simp only [TermG.av, TermG.cs_eq] at c
          refine callX_by (c _) ?_
          clear c
          rintro r hp3 ⟨⟨hf1, hf2, rfl⟩, rfl⟩
          simp only [go_sem, Nat.reduceEqDiff, Nat.reduceAdd, Nat.reduceSub, Nat.reduceLT, Nat.reduceMul, Nat.reduceBEq, Nat.reduceLeDiff, ↓reduceIte, Int.reduceToNat, Nat.reduceGT, Int.reduceLE, Int.reduceLT, Int.reduceGE, Int.reduceGT, Int.reduceEq, Int.reduceNe, reduceCtorEq, strsAV]
          refine draw_by (mu := []) (fun _ => True) (.take 0 (.take 1 (.take 2 (.take 4 (.take 5 (.take 7 (.br 3 (.br 6 (.br 8 (.take 9 (.take 10 (.take 11 (.take 12 (.take 13 (.done)))))) (.stop)) (.stop)) (.stop)))))))) (by decide +kernel) trivial (by decide +kernel) (by decide +kernel) ?_
          simp only [go_sem, Nat.reduceEqDiff, Nat.reduceAdd, Nat.reduceSub, Nat.reduceLT, Nat.reduceMul, Nat.reduceBEq, Nat.reduceLeDiff, ↓reduceIte, Int.reduceToNat, Nat.reduceGT, Int.reduceLE, Int.reduceLT, Int.reduceGE, Int.reduceGT, Int.reduceEq, Int.reduceNe, reduceCtorEq]
          have co1 := fun hp => only_calls h1 hf1 V (fvL t) (by omega) hp
          have co2 := fun hp => only_calls h2 hf2 L (flL t) (by omega) hp
          simp only [paramsAV, strsAV, fvL, flL] at co1 co2 hon
          refine callX_by (co1 _) ?_
          rintro r hp4 ⟨⟨ho1, rfl⟩, rfl⟩
          simp only [go_sem, Nat.reduceEqDiff, Nat.reduceAdd, Nat.reduceSub, Nat.reduceLT, Nat.reduceMul, Nat.reduceBEq, Nat.reduceLeDiff, ↓reduceIte, Int.reduceToNat, Nat.reduceGT, Int.reduceLE, Int.reduceLT, Int.reduceGE, Int.reduceGT, Int.reduceEq, Int.reduceNe, reduceCtorEq]
          refine callX_by (co2 _) ?_
          rintro r hp4 ⟨⟨ho2, rfl⟩, rfl⟩
          simp only [go_sem, Nat.reduceEqDiff, Nat.reduceAdd, Nat.reduceSub, Nat.reduceLT, Nat.reduceMul, Nat.reduceBEq, Nat.reduceLeDiff, ↓reduceIte, Int.reduceToNat, Nat.reduceGT, Int.reduceLE, Int.reduceLT, Int.reduceGE, Int.reduceGT, Int.reduceEq, Int.reduceNe, reduceCtorEq]
          have l1 := only_le V (fvL t)
          have l2 := only_le L (flL t)
          simp only [fvL, flL] at l1 l2
          refine callX_by (ct ho1 ho2 _ _ t (by omega) (by omega) _ hg) ?_
          rintro r hp4 ⟨rfl, rfl⟩
          simp only [go_sem, Nat.reduceEqDiff, Nat.reduceAdd, Nat.reduceSub, Nat.reduceLT, Nat.reduceMul, Nat.reduceBEq, Nat.reduceLeDiff, ↓reduceIte, Int.reduceToNat, Nat.reduceGT, Int.reduceLE, Int.reduceLT, Int.reduceGE, Int.reduceGT, Int.reduceEq, Int.reduceNe, reduceCtorEq, hon]
          have c := fun hp => types_calls p h3 M hp
          simp only [ProgG.av, ProgG.cs, declsAV, funsAV, paramsAV] at c
          refine callX_by (c _) ?_
          clear c
          rintro r hp4 ⟨rfl, rfl⟩
          simp only [go_sem, Nat.reduceEqDiff, Nat.reduceAdd, Nat.reduceSub, Nat.reduceLT, Nat.reduceMul, Nat.reduceBEq, Nat.reduceLeDiff, ↓reduceIte, Int.reduceToNat, Nat.reduceGT, Int.reduceLE, Int.reduceLT, Int.reduceGE, Int.reduceGT, Int.reduceEq, Int.reduceNe, reduceCtorEq]
          refine brK_mk (fun b3 => ?_) (fun b3 => ?_) <;> simp only [go_sem, Nat.reduceEqDiff, Nat.reduceAdd, Nat.reduceSub, Nat.reduceLT, Nat.reduceMul, Nat.reduceBEq, Nat.reduceLeDiff, ↓reduceIte, Int.reduceToNat, Nat.reduceGT, Int.reduceLE, Int.reduceLT, Int.reduceGE, Int.reduceGT, Int.reduceEq, Int.reduceNe, reduceCtorEq, b3]
          · have hmo := typeN_more a b3
            rw [hT] at hmo
            refine draw_by (mu := []) (fun _ => True) (.take 0 (.take 1 (.take 3 (.take 5 (.take 7 (.take 9 (.br 2 (.br 4 (.br 6 (.br 8 (.br 10 (.take 11 (.take 12 (.take 13 (.take 14 (.take 15 (.done)))))) (.stop)) (.stop)) (.stop)) (.stop)) (.stop)))))))) (by decide +kernel) trivial (by decide +kernel) (by decide +kernel) ?_
            simp only [go_sem, Nat.reduceEqDiff, Nat.reduceAdd, Nat.reduceSub, Nat.reduceLT, Nat.reduceMul, Nat.reduceBEq, Nat.reduceLeDiff, ↓reduceIte, Int.reduceToNat, Nat.reduceGT, Int.reduceLE, Int.reduceLT, Int.reduceGE, Int.reduceGT, Int.reduceEq, Int.reduceNe, reduceCtorEq]
            refine append0_by Try.k26 Try.s73 Try.y73 Try.z73 rfl (by decide) rfl (Cast.nil 2) rfl (Cast.refl _) (ones_params2 _) (by simp [maxLen]; omega) (by simp; omega) (by simp [go_sem]) (fun haV => ?_)
            simp only [go_sem, Nat.reduceEqDiff, Nat.reduceAdd, Nat.reduceSub, Nat.reduceLT, Nat.reduceMul, Nat.reduceBEq, Nat.reduceLeDiff, ↓reduceIte, Int.reduceToNat, Nat.reduceGT, Int.reduceLE, Int.reduceLT, Int.reduceGE, Int.reduceGT, Int.reduceEq, Int.reduceNe, reduceCtorEq]
            refine append_at 0 Try.k26 Try.s73 Try.y73 Try.z73 rfl (by decide) rfl (Cast.refl _) rfl (Cast.refl _) rfl (ones_params2 _) (by simp [maxLen]; omega) (by simp; omega) (by simp [go_sem]) (fun hbV => ?_)
            simp only [go_sem, Nat.reduceEqDiff, Nat.reduceAdd, Nat.reduceSub, Nat.reduceLT, Nat.reduceMul, Nat.reduceBEq, Nat.reduceLeDiff, ↓reduceIte, Int.reduceToNat, Nat.reduceGT, Int.reduceLE, Int.reduceLT, Int.reduceGE, Int.reduceGT, Int.reduceEq, Int.reduceNe, reduceCtorEq]
            refine append0_by Try.k26 Try.s73 Try.y73 Try.z73 rfl (by decide) rfl (Cast.nil 2) rfl (Cast.refl _) (ones_params2 _) (by simp [maxLen]; omega) (by simp; omega) (by simp [go_sem]) (fun haL => ?_)
            simp only [go_sem, Nat.reduceEqDiff, Nat.reduceAdd, Nat.reduceSub, Nat.reduceLT, Nat.reduceMul, Nat.reduceBEq, Nat.reduceLeDiff, ↓reduceIte, Int.reduceToNat, Nat.reduceGT, Int.reduceLE, Int.reduceLT, Int.reduceGE, Int.reduceGT, Int.reduceEq, Int.reduceNe, reduceCtorEq]
            refine append_at 0 Try.k26 Try.s73 Try.y73 Try.z73 rfl (by decide) rfl (Cast.refl _) rfl (Cast.refl _) rfl (ones_params2 _) (by simp [maxLen]; omega) (by simp; omega) (by simp [go_sem]) (fun hbL => ?_)
            simp only [go_sem, Nat.reduceEqDiff, Nat.reduceAdd, Nat.reduceSub, Nat.reduceLT, Nat.reduceMul, Nat.reduceBEq, Nat.reduceLeDiff, ↓reduceIte, Int.reduceToNat, Nat.reduceGT, Int.reduceLE, Int.reduceLT, Int.reduceGE, Int.reduceGT, Int.reduceEq, Int.reduceNe, reduceCtorEq]
            have c := fun hp (hg : GOk hp) => ct hbV hbL (M ++ V) (M ++ L) t (by rw [List.length_append]; omega) (by rw [List.length_append]; omega) hp hg
            simp only [List.map_append] at c
            refine callX_by (c _ hg) ?_
            clear c
            rintro r hp5 ⟨rfl, rfl⟩
            simp only [go_sem, Nat.reduceEqDiff, Nat.reduceAdd, Nat.reduceSub, Nat.reduceLT, Nat.reduceMul, Nat.reduceBEq, Nat.reduceLeDiff, ↓reduceIte, Int.reduceToNat, Nat.reduceGT, Int.reduceLE, Int.reduceLT, Int.reduceGE, Int.reduceGT, Int.reduceEq, Int.reduceNe, reduceCtorEq, hmo]
            have cd := fun hp => depthN_calls (nodesT t) t (Nat.le_refl _) (by omega) hp
            have cn := fun hp => nodesN_calls (nodesT t) t (Nat.le_refl _) (by omega) hp
            simp only [TermG.av, TermG.cs_eq] at cd cn
            refine callX_by (cd _) ?_
            rintro r hp5 ⟨rfl, rfl⟩
            simp only [go_sem, Nat.reduceEqDiff, Nat.reduceAdd, Nat.reduceSub, Nat.reduceLT, Nat.reduceMul, Nat.reduceBEq, Nat.reduceLeDiff, ↓reduceIte, Int.reduceToNat, Nat.reduceGT, Int.reduceLE, Int.reduceLT, Int.reduceGE, Int.reduceGT, Int.reduceEq, Int.reduceNe, reduceCtorEq]
            refine brK_mk (fun b4 => ?_) (fun b4 => ?_) <;> simp only [go_sem, Nat.reduceEqDiff, Nat.reduceAdd, Nat.reduceSub, Nat.reduceLT, Nat.reduceMul, Nat.reduceBEq, Nat.reduceLeDiff, ↓reduceIte, Int.reduceToNat, Nat.reduceGT, Int.reduceLE, Int.reduceLT, Int.reduceGE, Int.reduceGT, Int.reduceEq, Int.reduceNe, reduceCtorEq, b4]
            · refine callX_by (aw _ hg) ?_
              rintro r hp9 ⟨rfl, rfl⟩
              simp only [go_sem, Nat.reduceEqDiff, Nat.reduceAdd, Nat.reduceSub, Nat.reduceLT, Nat.reduceMul, Nat.reduceBEq, Nat.reduceLeDiff, ↓reduceIte, Int.reduceToNat, Nat.reduceGT, Int.reduceLE, Int.reduceLT, Int.reduceGE, Int.reduceGT, Int.reduceEq, Int.reduceNe, reduceCtorEq]
              exact ret_le (Hp.le_trans (Hp.le_addSp _ _) (Hp.le_addSp _ _)) ⟨rfl, rfl⟩
            · refine callX_by (cn _) ?_
              rintro r hp6 ⟨rfl, rfl⟩
              simp only [go_sem, Nat.reduceEqDiff, Nat.reduceAdd, Nat.reduceSub, Nat.reduceLT, Nat.reduceMul, Nat.reduceBEq, Nat.reduceLeDiff, ↓reduceIte, Int.reduceToNat, Nat.reduceGT, Int.reduceLE, Int.reduceLT, Int.reduceGE, Int.reduceGT, Int.reduceEq, Int.reduceNe, reduceCtorEq]
              refine brK_mk (fun b5 => ?_) (fun b5 => ?_) <;> simp only [go_sem, Nat.reduceEqDiff, Nat.reduceAdd, Nat.reduceSub, Nat.reduceLT, Nat.reduceMul, Nat.reduceBEq, Nat.reduceLeDiff, ↓reduceIte, Int.reduceToNat, Nat.reduceGT, Int.reduceLE, Int.reduceLT, Int.reduceGE, Int.reduceGT, Int.reduceEq, Int.reduceNe, reduceCtorEq, b5]
              · refine callX_by (aw _ hg) ?_
                rintro r hp9 ⟨rfl, rfl⟩
                simp only [go_sem, Nat.reduceEqDiff, Nat.reduceAdd, Nat.reduceSub, Nat.reduceLT, Nat.reduceMul, Nat.reduceBEq, Nat.reduceLeDiff, ↓reduceIte, Int.reduceToNat, Nat.reduceGT, Int.reduceLE, Int.reduceLT, Int.reduceGE, Int.reduceGT, Int.reduceEq, Int.reduceNe, reduceCtorEq]
                exact ret_le (Hp.le_trans (Hp.le_addSp _ _) (Hp.le_addSp _ _)) ⟨rfl, rfl⟩
              · have hd24 : depthT t < 24 := by have := of_decide_eq_false b4; omega
                have hn598 : nodesT t ≤ 598 := by have := of_decide_eq_false b5; omega
                have hdl := (prog_ok a.hp).hdl
                refine aw_loopX 154 (fun k : Nat => [(1, .lst 2 h1 (V.map ParamG.av)), (2, .lst 2 h2 (L.map ParamG.av)), (5, .ref q1 [.lst 3 p.hd (p.ds.map DeclG.av), .lst 9 p.hf (p.fs.map FunG.av)]), (9, .ref q2 [.v (.int .i64 t.op), .v (.int .i64 t.n), .v (.string (bs t.name)), .v (.int .i64 t.ty), .lst 6 t.ha (t.args.map TermG.av), .lst 7 t.hc (t.cls.map ClauseG.av)]), (11, .v (.int .i64 n0)), (12, .v (.int .i64 0)), (17, .v (.int .i64 k))])
                  (fun _ => hp4) (fun k => k ≤ p.ds.length + 1) (fun k => p.ds.length + 1 - k) 0 (Nat.zero_le _) (le_mkSl rfl ⟨fun _ _ h => h, fun _ _ h => h, (List.sublist_cons_self _ _).trans (List.sublist_cons_self _ _), fun _ h => h⟩ (by simp [go_sem])) ?_
                intro k hk
                refine awp_sound (mu := []) _ _ _ ?_
                simp only [go_sem, Nat.reduceEqDiff, Nat.reduceAdd, Nat.reduceSub, Nat.reduceLT, Nat.reduceMul, Nat.reduceBEq, Nat.reduceLeDiff, ↓reduceIte, Int.reduceToNat, Nat.reduceGT, Int.reduceLE, Int.reduceLT, Int.reduceGE, Int.reduceGT, Int.reduceEq, Int.reduceNe, reduceCtorEq]
                refine brK_mk (fun b6 => ?_) (fun b6 => ?_) <;> simp only [go_sem, Nat.reduceEqDiff, Nat.reduceAdd, Nat.reduceSub, Nat.reduceLT, Nat.reduceMul, Nat.reduceBEq, Nat.reduceLeDiff, ↓reduceIte, Int.reduceToNat, Nat.reduceGT, Int.reduceLE, Int.reduceLT, Int.reduceGE, Int.reduceGT, Int.reduceEq, Int.reduceNe, reduceCtorEq, b6]
                · have hk' : (k : Int) ≤ p.ds.length := of_decide_eq_true b6
                  have hwu : IntKind.i64.wrap ((k : Int) + 1) = ((k + 1 : Nat) : Int) := IntWalk.i64_in _ (by omega)
                  have hty : typB p.ds (k : Int) = true := by simp [typB]; omega
                  refine ⟨rfl, by simp, fun hd v hv => ?_⟩
                  have hdv := fun T cs => Hp.del_set _ _ T cs hv.1
                  simp only [hdv]
                  have hlet := typeN_let a hd (k : Int) hty hn598 hd24
                  rw [hT] at hlet
                  have c := fun hp (hg : GOk hp) => let_cast (pre := [p.av, paramsAV h1 V, paramsAV h2 L]) (ctype_calls p hpf h1 h2 V L (by omega) (by omega) (letT hd k t) hp hg)
                  simp only [ProgG.av, ProgG.cs, declsAV, funsAV, TermG.av, TermG.cs_eq, paramsAV, List.cons_append, List.nil_append] at c
                  refine callX_by (c _ hg) ?_
                  clear c
                  rintro r hp7 ⟨rfl, rfl⟩
                  by_cases hkn : (k : Int) = n0
                  · have e1 : typeN p V L (letT hd k t) = (((k : Int), 0)) := by rw [hlet]; simp [hkn]
                    simp only [go_sem, Nat.reduceEqDiff, Nat.reduceAdd, Nat.reduceSub, Nat.reduceLT, Nat.reduceMul, Nat.reduceBEq, Nat.reduceLeDiff, ↓reduceIte, Int.reduceToNat, Nat.reduceGT, Int.reduceLE, Int.reduceLT, Int.reduceGE, Int.reduceGT, Int.reduceEq, Int.reduceNe, reduceCtorEq, e1, decide_eq_true hkn]
                    exact ⟨k + 1, by omega, by omega, le_mkSl rfl (Hp.le_addSp _ _) (by simp [go_sem, hwu])⟩
                  · have e1 : typeN p V L (letT hd k t) = (0, 40) := by rw [hlet]; simp [hkn]
                    simp only [go_sem, Nat.reduceEqDiff, Nat.reduceAdd, Nat.reduceSub, Nat.reduceLT, Nat.reduceMul, Nat.reduceBEq, Nat.reduceLeDiff, ↓reduceIte, Int.reduceToNat, Nat.reduceGT, Int.reduceLE, Int.reduceLT, Int.reduceGE, Int.reduceGT, Int.reduceEq, Int.reduceNe, reduceCtorEq, e1, decide_eq_false hkn]
                    exact ⟨k + 1, by omega, by omega, le_mkSl rfl (Hp.le_addSp _ _) (by simp [go_sem, hwu])⟩
                · refine callX_by (aw _ hg) ?_
                  rintro r hp9 ⟨rfl, rfl⟩
                  simp only [go_sem, Nat.reduceEqDiff, Nat.reduceAdd, Nat.reduceSub, Nat.reduceLT, Nat.reduceMul, Nat.reduceBEq, Nat.reduceLeDiff, ↓reduceIte, Int.reduceToNat, Nat.reduceGT, Int.reduceLE, Int.reduceLT, Int.reduceGE, Int.reduceGT, Int.reduceEq, Int.reduceNe, reduceCtorEq]
                  exact ret_same ⟨rfl, rfl⟩
          · have cd := fun hp => depthN_calls (nodesT t) t (Nat.le_refl _) (by omega) hp
            have cn := fun hp => nodesN_calls (nodesT t) t (Nat.le_refl _) (by omega) hp
            simp only [TermG.av, TermG.cs_eq] at cd cn
            refine callX_by (cd _) ?_
            rintro r hp5 ⟨rfl, rfl⟩
            simp only [go_sem, Nat.reduceEqDiff, Nat.reduceAdd, Nat.reduceSub, Nat.reduceLT, Nat.reduceMul, Nat.reduceBEq, Nat.reduceLeDiff, ↓reduceIte, Int.reduceToNat, Nat.reduceGT, Int.reduceLE, Int.reduceLT, Int.reduceGE, Int.reduceGT, Int.reduceEq, Int.reduceNe, reduceCtorEq]
            refine brK_mk (fun b4 => ?_) (fun b4 => ?_) <;> simp only [go_sem, Nat.reduceEqDiff, Nat.reduceAdd, Nat.reduceSub, Nat.reduceLT, Nat.reduceMul, Nat.reduceBEq, Nat.reduceLeDiff, ↓reduceIte, Int.reduceToNat, Nat.reduceGT, Int.reduceLE, Int.reduceLT, Int.reduceGE, Int.reduceGT, Int.reduceEq, Int.reduceNe, reduceCtorEq, b4]
            · refine callX_by (aw _ hg) ?_
              rintro r hp9 ⟨rfl, rfl⟩
              simp only [go_sem, Nat.reduceEqDiff, Nat.reduceAdd, Nat.reduceSub, Nat.reduceLT, Nat.reduceMul, Nat.reduceBEq, Nat.reduceLeDiff, ↓reduceIte, Int.reduceToNat, Nat.reduceGT, Int.reduceLE, Int.reduceLT, Int.reduceGE, Int.reduceGT, Int.reduceEq, Int.reduceNe, reduceCtorEq]
              exact ret_le (Hp.le_refl _) ⟨rfl, rfl⟩
            · refine callX_by (cn _) ?_
              rintro r hp6 ⟨rfl, rfl⟩
              simp only [go_sem, Nat.reduceEqDiff, Nat.reduceAdd, Nat.reduceSub, Nat.reduceLT, Nat.reduceMul, Nat.reduceBEq, Nat.reduceLeDiff, ↓reduceIte, Int.reduceToNat, Nat.reduceGT, Int.reduceLE, Int.reduceLT, Int.reduceGE, Int.reduceGT, Int.reduceEq, Int.reduceNe, reduceCtorEq]
              refine brK_mk (fun b5 => ?_) (fun b5 => ?_) <;> simp only [go_sem, Nat.reduceEqDiff, Nat.reduceAdd, Nat.reduceSub, Nat.reduceLT, Nat.reduceMul, Nat.reduceBEq, Nat.reduceLeDiff, ↓reduceIte, Int.reduceToNat, Nat.reduceGT, Int.reduceLE, Int.reduceLT, Int.reduceGE, Int.reduceGT, Int.reduceEq, Int.reduceNe, reduceCtorEq, b5]
              · refine callX_by (aw _ hg) ?_
                rintro r hp9 ⟨rfl, rfl⟩
                simp only [go_sem, Nat.reduceEqDiff, Nat.reduceAdd, Nat.reduceSub, Nat.reduceLT, Nat.reduceMul, Nat.reduceBEq, Nat.reduceLeDiff, ↓reduceIte, Int.reduceToNat, Nat.reduceGT, Int.reduceLE, Int.reduceLT, Int.reduceGE, Int.reduceGT, Int.reduceEq, Int.reduceNe, reduceCtorEq]
                exact ret_le (Hp.le_refl _) ⟨rfl, rfl⟩
              · have hd24 : depthT t < 24 := by have := of_decide_eq_false b4; omega
                have hn598 : nodesT t ≤ 598 := by have := of_decide_eq_false b5; omega
                have hdl := (prog_ok a.hp).hdl
                refine aw_loopX 154 (fun k : Nat => [(1, .lst 2 h1 (V.map ParamG.av)), (2, .lst 2 h2 (L.map ParamG.av)), (5, .ref q1 [.lst 3 p.hd (p.ds.map DeclG.av), .lst 9 p.hf (p.fs.map FunG.av)]), (9, .ref q2 [.v (.int .i64 t.op), .v (.int .i64 t.n), .v (.string (bs t.name)), .v (.int .i64 t.ty), .lst 6 t.ha (t.args.map TermG.av), .lst 7 t.hc (t.cls.map ClauseG.av)]), (11, .v (.int .i64 n0)), (12, .v (.int .i64 0)), (17, .v (.int .i64 k))])
                  (fun _ => hp6) (fun k => k ≤ p.ds.length + 1) (fun k => p.ds.length + 1 - k) 0 (Nat.zero_le _) (le_mkSl rfl (Hp.le_refl _) (by simp [go_sem])) ?_
                intro k hk
                refine awp_sound (mu := []) _ _ _ ?_
                simp only [go_sem, Nat.reduceEqDiff, Nat.reduceAdd, Nat.reduceSub, Nat.reduceLT, Nat.reduceMul, Nat.reduceBEq, Nat.reduceLeDiff, ↓reduceIte, Int.reduceToNat, Nat.reduceGT, Int.reduceLE, Int.reduceLT, Int.reduceGE, Int.reduceGT, Int.reduceEq, Int.reduceNe, reduceCtorEq]
                refine brK_mk (fun b6 => ?_) (fun b6 => ?_) <;> simp only [go_sem, Nat.reduceEqDiff, Nat.reduceAdd, Nat.reduceSub, Nat.reduceLT, Nat.reduceMul, Nat.reduceBEq, Nat.reduceLeDiff, ↓reduceIte, Int.reduceToNat, Nat.reduceGT, Int.reduceLE, Int.reduceLT, Int.reduceGE, Int.reduceGT, Int.reduceEq, Int.reduceNe, reduceCtorEq, b6]
                · have hk' : (k : Int) ≤ p.ds.length := of_decide_eq_true b6
                  have hwu : IntKind.i64.wrap ((k : Int) + 1) = ((k + 1 : Nat) : Int) := IntWalk.i64_in _ (by omega)
                  have hty : typB p.ds (k : Int) = true := by simp [typB]; omega
                  refine ⟨rfl, by simp, fun hd v hv => ?_⟩
                  have hdv := fun T cs => Hp.del_set _ _ T cs hv.1
                  simp only [hdv]
                  have hlet := typeN_let a hd (k : Int) hty hn598 hd24
                  rw [hT] at hlet
                  have c := fun hp (hg : GOk hp) => let_cast (pre := [p.av, paramsAV h1 V, paramsAV h2 L]) (ctype_calls p hpf h1 h2 V L (by omega) (by omega) (letT hd k t) hp hg)
                  simp only [ProgG.av, ProgG.cs, declsAV, funsAV, TermG.av, TermG.cs_eq, paramsAV, List.cons_append, List.nil_append] at c
                  refine callX_by (c _ hg) ?_
                  clear c
                  rintro r hp7 ⟨rfl, rfl⟩
                  by_cases hkn : (k : Int) = n0
                  · have e1 : typeN p V L (letT hd k t) = (((k : Int), 0)) := by rw [hlet]; simp [hkn]
                    simp only [go_sem, Nat.reduceEqDiff, Nat.reduceAdd, Nat.reduceSub, Nat.reduceLT, Nat.reduceMul, Nat.reduceBEq, Nat.reduceLeDiff, ↓reduceIte, Int.reduceToNat, Nat.reduceGT, Int.reduceLE, Int.reduceLT, Int.reduceGE, Int.reduceGT, Int.reduceEq, Int.reduceNe, reduceCtorEq, e1, decide_eq_true hkn]
                    exact ⟨k + 1, by omega, by omega, le_mkSl rfl (Hp.le_addSp _ _) (by simp [go_sem, hwu])⟩
                  · have e1 : typeN p V L (letT hd k t) = (0, 40) := by rw [hlet]; simp [hkn]
                    simp only [go_sem, Nat.reduceEqDiff, Nat.reduceAdd, Nat.reduceSub, Nat.reduceLT, Nat.reduceMul, Nat.reduceBEq, Nat.reduceLeDiff, ↓reduceIte, Int.reduceToNat, Nat.reduceGT, Int.reduceLE, Int.reduceLT, Int.reduceGE, Int.reduceGT, Int.reduceEq, Int.reduceNe, reduceCtorEq, e1, decide_eq_false hkn]
                    exact ⟨k + 1, by omega, by omega, le_mkSl rfl (Hp.le_addSp _ _) (by simp [go_sem, hwu])⟩
                · refine callX_by (aw _ hg) ?_
                  rintro r hp9 ⟨rfl, rfl⟩
                  simp only [go_sem, Nat.reduceEqDiff, Nat.reduceAdd, Nat.reduceSub, Nat.reduceLT, Nat.reduceMul, Nat.reduceBEq, Nat.reduceLeDiff, ↓reduceIte, Int.reduceToNat, Nat.reduceGT, Int.reduceLE, Int.reduceLT, Int.reduceGE, Int.reduceGT, Int.reduceEq, Int.reduceNe, reduceCtorEq]
                  exact ret_le (Hp.le_refl _) ⟨rfl, rfl⟩
        · simp only [go_sem, Nat.reduceEqDiff, Nat.reduceAdd, Nat.reduceSub, Nat.reduceLT, Nat.reduceMul, Nat.reduceBEq, Nat.reduceLeDiff, ↓reduceIte, Int.reduceToNat, Nat.reduceGT, Int.reduceLE, Int.reduceLT, Int.reduceGE, Int.reduceGT, Int.reduceEq, Int.reduceNe, reduceCtorEq]
          have c := fun hp => rfreeT_calls t (by omega) (by omega) hp
          simp only [TermG.av, TermG.cs_eq] at c
          refine callX_by (c _) ?_
          clear c
          rintro r hp3 ⟨⟨hf1, hf2, rfl⟩, rfl⟩
          simp only [go_sem, Nat.reduceEqDiff, Nat.reduceAdd, Nat.reduceSub, Nat.reduceLT, Nat.reduceMul, Nat.reduceBEq, Nat.reduceLeDiff, ↓reduceIte, Int.reduceToNat, Nat.reduceGT, Int.reduceLE, Int.reduceLT, Int.reduceGE, Int.reduceGT, Int.reduceEq, Int.reduceNe, reduceCtorEq, strsAV]
          refine draw_by (mu := []) (fun _ => True) (.take 0 (.take 1 (.take 2 (.take 4 (.take 5 (.take 7 (.br 3 (.br 6 (.br 8 (.take 9 (.take 10 (.take 11 (.take 12 (.take 13 (.done)))))) (.stop)) (.stop)) (.stop)))))))) (by decide +kernel) trivial (by decide +kernel) (by decide +kernel) ?_
          simp only [go_sem, Nat.reduceEqDiff, Nat.reduceAdd, Nat.reduceSub, Nat.reduceLT, Nat.reduceMul, Nat.reduceBEq, Nat.reduceLeDiff, ↓reduceIte, Int.reduceToNat, Nat.reduceGT, Int.reduceLE, Int.reduceLT, Int.reduceGE, Int.reduceGT, Int.reduceEq, Int.reduceNe, reduceCtorEq]
          have co1 := fun hp => only_calls h1 hf1 V (fvL t) (by omega) hp
          have co2 := fun hp => only_calls h2 hf2 L (flL t) (by omega) hp
          simp only [paramsAV, strsAV, fvL, flL] at co1 co2 hon
          refine callX_by (co1 _) ?_
          rintro r hp4 ⟨⟨ho1, rfl⟩, rfl⟩
          simp only [go_sem, Nat.reduceEqDiff, Nat.reduceAdd, Nat.reduceSub, Nat.reduceLT, Nat.reduceMul, Nat.reduceBEq, Nat.reduceLeDiff, ↓reduceIte, Int.reduceToNat, Nat.reduceGT, Int.reduceLE, Int.reduceLT, Int.reduceGE, Int.reduceGT, Int.reduceEq, Int.reduceNe, reduceCtorEq]
          refine callX_by (co2 _) ?_
          rintro r hp4 ⟨⟨ho2, rfl⟩, rfl⟩
          simp only [go_sem, Nat.reduceEqDiff, Nat.reduceAdd, Nat.reduceSub, Nat.reduceLT, Nat.reduceMul, Nat.reduceBEq, Nat.reduceLeDiff, ↓reduceIte, Int.reduceToNat, Nat.reduceGT, Int.reduceLE, Int.reduceLT, Int.reduceGE, Int.reduceGT, Int.reduceEq, Int.reduceNe, reduceCtorEq]
          have l1 := only_le V (fvL t)
          have l2 := only_le L (flL t)
          simp only [fvL, flL] at l1 l2
          refine callX_by (ct ho1 ho2 _ _ t (by omega) (by omega) _ hg) ?_
          rintro r hp4 ⟨rfl, rfl⟩
          simp only [go_sem, Nat.reduceEqDiff, Nat.reduceAdd, Nat.reduceSub, Nat.reduceLT, Nat.reduceMul, Nat.reduceBEq, Nat.reduceLeDiff, ↓reduceIte, Int.reduceToNat, Nat.reduceGT, Int.reduceLE, Int.reduceLT, Int.reduceGE, Int.reduceGT, Int.reduceEq, Int.reduceNe, reduceCtorEq, hon]
          have c := fun hp => types_calls p h3 M hp
          simp only [ProgG.av, ProgG.cs, declsAV, funsAV, paramsAV] at c
          refine callX_by (c _) ?_
          clear c
          rintro r hp4 ⟨rfl, rfl⟩
          simp only [go_sem, Nat.reduceEqDiff, Nat.reduceAdd, Nat.reduceSub, Nat.reduceLT, Nat.reduceMul, Nat.reduceBEq, Nat.reduceLeDiff, ↓reduceIte, Int.reduceToNat, Nat.reduceGT, Int.reduceLE, Int.reduceLT, Int.reduceGE, Int.reduceGT, Int.reduceEq, Int.reduceNe, reduceCtorEq]
          refine brK_mk (fun b3 => ?_) (fun b3 => ?_) <;> simp only [go_sem, Nat.reduceEqDiff, Nat.reduceAdd, Nat.reduceSub, Nat.reduceLT, Nat.reduceMul, Nat.reduceBEq, Nat.reduceLeDiff, ↓reduceIte, Int.reduceToNat, Nat.reduceGT, Int.reduceLE, Int.reduceLT, Int.reduceGE, Int.reduceGT, Int.reduceEq, Int.reduceNe, reduceCtorEq, b3]
          · have hmo := typeN_more a b3
            rw [hT] at hmo
            refine draw_by (mu := []) (fun _ => True) (.take 0 (.take 1 (.take 3 (.take 5 (.take 7 (.take 9 (.br 2 (.br 4 (.br 6 (.br 8 (.br 10 (.take 11 (.take 12 (.take 13 (.take 14 (.take 15 (.done)))))) (.stop)) (.stop)) (.stop)) (.stop)) (.stop)))))))) (by decide +kernel) trivial (by decide +kernel) (by decide +kernel) ?_
            simp only [go_sem, Nat.reduceEqDiff, Nat.reduceAdd, Nat.reduceSub, Nat.reduceLT, Nat.reduceMul, Nat.reduceBEq, Nat.reduceLeDiff, ↓reduceIte, Int.reduceToNat, Nat.reduceGT, Int.reduceLE, Int.reduceLT, Int.reduceGE, Int.reduceGT, Int.reduceEq, Int.reduceNe, reduceCtorEq]
            refine append0_by Try.k26 Try.s73 Try.y73 Try.z73 rfl (by decide) rfl (Cast.nil 2) rfl (Cast.refl _) (ones_params2 _) (by simp [maxLen]; omega) (by simp; omega) (by simp [go_sem]) (fun haV => ?_)
            simp only [go_sem, Nat.reduceEqDiff, Nat.reduceAdd, Nat.reduceSub, Nat.reduceLT, Nat.reduceMul, Nat.reduceBEq, Nat.reduceLeDiff, ↓reduceIte, Int.reduceToNat, Nat.reduceGT, Int.reduceLE, Int.reduceLT, Int.reduceGE, Int.reduceGT, Int.reduceEq, Int.reduceNe, reduceCtorEq]
            refine append_at 0 Try.k26 Try.s73 Try.y73 Try.z73 rfl (by decide) rfl (Cast.refl _) rfl (Cast.refl _) rfl (ones_params2 _) (by simp [maxLen]; omega) (by simp; omega) (by simp [go_sem]) (fun hbV => ?_)
            simp only [go_sem, Nat.reduceEqDiff, Nat.reduceAdd, Nat.reduceSub, Nat.reduceLT, Nat.reduceMul, Nat.reduceBEq, Nat.reduceLeDiff, ↓reduceIte, Int.reduceToNat, Nat.reduceGT, Int.reduceLE, Int.reduceLT, Int.reduceGE, Int.reduceGT, Int.reduceEq, Int.reduceNe, reduceCtorEq]
            refine append0_by Try.k26 Try.s73 Try.y73 Try.z73 rfl (by decide) rfl (Cast.nil 2) rfl (Cast.refl _) (ones_params2 _) (by simp [maxLen]; omega) (by simp; omega) (by simp [go_sem]) (fun haL => ?_)
            simp only [go_sem, Nat.reduceEqDiff, Nat.reduceAdd, Nat.reduceSub, Nat.reduceLT, Nat.reduceMul, Nat.reduceBEq, Nat.reduceLeDiff, ↓reduceIte, Int.reduceToNat, Nat.reduceGT, Int.reduceLE, Int.reduceLT, Int.reduceGE, Int.reduceGT, Int.reduceEq, Int.reduceNe, reduceCtorEq]
            refine append_at 0 Try.k26 Try.s73 Try.y73 Try.z73 rfl (by decide) rfl (Cast.refl _) rfl (Cast.refl _) rfl (ones_params2 _) (by simp [maxLen]; omega) (by simp; omega) (by simp [go_sem]) (fun hbL => ?_)
            simp only [go_sem, Nat.reduceEqDiff, Nat.reduceAdd, Nat.reduceSub, Nat.reduceLT, Nat.reduceMul, Nat.reduceBEq, Nat.reduceLeDiff, ↓reduceIte, Int.reduceToNat, Nat.reduceGT, Int.reduceLE, Int.reduceLT, Int.reduceGE, Int.reduceGT, Int.reduceEq, Int.reduceNe, reduceCtorEq]
            have c := fun hp (hg : GOk hp) => ct hbV hbL (M ++ V) (M ++ L) t (by rw [List.length_append]; omega) (by rw [List.length_append]; omega) hp hg
            simp only [List.map_append] at c
            refine callX_by (c _ hg) ?_
            clear c
            rintro r hp5 ⟨rfl, rfl⟩
            simp only [go_sem, Nat.reduceEqDiff, Nat.reduceAdd, Nat.reduceSub, Nat.reduceLT, Nat.reduceMul, Nat.reduceBEq, Nat.reduceLeDiff, ↓reduceIte, Int.reduceToNat, Nat.reduceGT, Int.reduceLE, Int.reduceLT, Int.reduceGE, Int.reduceGT, Int.reduceEq, Int.reduceNe, reduceCtorEq, hmo]
            have cd := fun hp => depthN_calls (nodesT t) t (Nat.le_refl _) (by omega) hp
            have cn := fun hp => nodesN_calls (nodesT t) t (Nat.le_refl _) (by omega) hp
            simp only [TermG.av, TermG.cs_eq] at cd cn
            refine callX_by (cd _) ?_
            rintro r hp5 ⟨rfl, rfl⟩
            simp only [go_sem, Nat.reduceEqDiff, Nat.reduceAdd, Nat.reduceSub, Nat.reduceLT, Nat.reduceMul, Nat.reduceBEq, Nat.reduceLeDiff, ↓reduceIte, Int.reduceToNat, Nat.reduceGT, Int.reduceLE, Int.reduceLT, Int.reduceGE, Int.reduceGT, Int.reduceEq, Int.reduceNe, reduceCtorEq]
            refine brK_mk (fun b4 => ?_) (fun b4 => ?_) <;> simp only [go_sem, Nat.reduceEqDiff, Nat.reduceAdd, Nat.reduceSub, Nat.reduceLT, Nat.reduceMul, Nat.reduceBEq, Nat.reduceLeDiff, ↓reduceIte, Int.reduceToNat, Nat.reduceGT, Int.reduceLE, Int.reduceLT, Int.reduceGE, Int.reduceGT, Int.reduceEq, Int.reduceNe, reduceCtorEq, b4]
            · refine callX_by (aw _ hg) ?_
              rintro r hp9 ⟨rfl, rfl⟩
              simp only [go_sem, Nat.reduceEqDiff, Nat.reduceAdd, Nat.reduceSub, Nat.reduceLT, Nat.reduceMul, Nat.reduceBEq, Nat.reduceLeDiff, ↓reduceIte, Int.reduceToNat, Nat.reduceGT, Int.reduceLE, Int.reduceLT, Int.reduceGE, Int.reduceGT, Int.reduceEq, Int.reduceNe, reduceCtorEq]
              exact ret_le (Hp.le_trans (Hp.le_addSp _ _) (Hp.le_addSp _ _)) ⟨rfl, rfl⟩
            · refine callX_by (cn _) ?_
              rintro r hp6 ⟨rfl, rfl⟩
              simp only [go_sem, Nat.reduceEqDiff, Nat.reduceAdd, Nat.reduceSub, Nat.reduceLT, Nat.reduceMul, Nat.reduceBEq, Nat.reduceLeDiff, ↓reduceIte, Int.reduceToNat, Nat.reduceGT, Int.reduceLE, Int.reduceLT, Int.reduceGE, Int.reduceGT, Int.reduceEq, Int.reduceNe, reduceCtorEq]
              refine brK_mk (fun b5 => ?_) (fun b5 => ?_) <;> simp only [go_sem, Nat.reduceEqDiff, Nat.reduceAdd, Nat.reduceSub, Nat.reduceLT, Nat.reduceMul, Nat.reduceBEq, Nat.reduceLeDiff, ↓reduceIte, Int.reduceToNat, Nat.reduceGT, Int.reduceLE, Int.reduceLT, Int.reduceGE, Int.reduceGT, Int.reduceEq, Int.reduceNe, reduceCtorEq, b5]
              · refine callX_by (aw _ hg) ?_
                rintro r hp9 ⟨rfl, rfl⟩
                simp only [go_sem, Nat.reduceEqDiff, Nat.reduceAdd, Nat.reduceSub, Nat.reduceLT, Nat.reduceMul, Nat.reduceBEq, Nat.reduceLeDiff, ↓reduceIte, Int.reduceToNat, Nat.reduceGT, Int.reduceLE, Int.reduceLT, Int.reduceGE, Int.reduceGT, Int.reduceEq, Int.reduceNe, reduceCtorEq]
                exact ret_le (Hp.le_trans (Hp.le_addSp _ _) (Hp.le_addSp _ _)) ⟨rfl, rfl⟩
              · have hd24 : depthT t < 24 := by have := of_decide_eq_false b4; omega
                have hn598 : nodesT t ≤ 598 := by have := of_decide_eq_false b5; omega
                have hdl := (prog_ok a.hp).hdl
                refine aw_loopX 154 (fun k : Nat => [(1, .lst 2 h1 (V.map ParamG.av)), (2, .lst 2 h2 (L.map ParamG.av)), (5, .ref q1 [.lst 3 p.hd (p.ds.map DeclG.av), .lst 9 p.hf (p.fs.map FunG.av)]), (9, .ref q2 [.v (.int .i64 t.op), .v (.int .i64 t.n), .v (.string (bs t.name)), .v (.int .i64 t.ty), .lst 6 t.ha (t.args.map TermG.av), .lst 7 t.hc (t.cls.map ClauseG.av)]), (11, .v (.int .i64 n0)), (12, .v (.int .i64 40)), (17, .v (.int .i64 k))])
                  (fun _ => hp4) (fun k => k ≤ p.ds.length + 1) (fun k => p.ds.length + 1 - k) 0 (Nat.zero_le _) (le_mkSl rfl ⟨fun _ _ h => h, fun _ _ h => h, (List.sublist_cons_self _ _).trans (List.sublist_cons_self _ _), fun _ h => h⟩ (by simp [go_sem])) ?_
                intro k hk
                refine awp_sound (mu := []) _ _ _ ?_
                simp only [go_sem, Nat.reduceEqDiff, Nat.reduceAdd, Nat.reduceSub, Nat.reduceLT, Nat.reduceMul, Nat.reduceBEq, Nat.reduceLeDiff, ↓reduceIte, Int.reduceToNat, Nat.reduceGT, Int.reduceLE, Int.reduceLT, Int.reduceGE, Int.reduceGT, Int.reduceEq, Int.reduceNe, reduceCtorEq]
                refine brK_mk (fun b6 => ?_) (fun b6 => ?_) <;> simp only [go_sem, Nat.reduceEqDiff, Nat.reduceAdd, Nat.reduceSub, Nat.reduceLT, Nat.reduceMul, Nat.reduceBEq, Nat.reduceLeDiff, ↓reduceIte, Int.reduceToNat, Nat.reduceGT, Int.reduceLE, Int.reduceLT, Int.reduceGE, Int.reduceGT, Int.reduceEq, Int.reduceNe, reduceCtorEq, b6]
                · have hk' : (k : Int) ≤ p.ds.length := of_decide_eq_true b6
                  have hwu : IntKind.i64.wrap ((k : Int) + 1) = ((k + 1 : Nat) : Int) := IntWalk.i64_in _ (by omega)
                  have hty : typB p.ds (k : Int) = true := by simp [typB]; omega
                  refine ⟨rfl, by simp, fun hd v hv => ?_⟩
                  have hdv := fun T cs => Hp.del_set _ _ T cs hv.1
                  simp only [hdv]
                  have hlet := typeN_let a hd (k : Int) hty hn598 hd24
                  rw [hT] at hlet
                  have c := fun hp (hg : GOk hp) => let_cast (pre := [p.av, paramsAV h1 V, paramsAV h2 L]) (ctype_calls p hpf h1 h2 V L (by omega) (by omega) (letT hd k t) hp hg)
                  simp only [ProgG.av, ProgG.cs, declsAV, funsAV, TermG.av, TermG.cs_eq, paramsAV, List.cons_append, List.nil_append] at c
                  refine callX_by (c _ hg) ?_
                  clear c
                  rintro r hp7 ⟨rfl, rfl⟩
                  by_cases hkn : (k : Int) = n0
                  · have e1 : typeN p V L (letT hd k t) = ((0, 40)) := by rw [hlet]; simp [hkn]
                    simp only [go_sem, Nat.reduceEqDiff, Nat.reduceAdd, Nat.reduceSub, Nat.reduceLT, Nat.reduceMul, Nat.reduceBEq, Nat.reduceLeDiff, ↓reduceIte, Int.reduceToNat, Nat.reduceGT, Int.reduceLE, Int.reduceLT, Int.reduceGE, Int.reduceGT, Int.reduceEq, Int.reduceNe, reduceCtorEq, e1, decide_eq_true hkn]
                    exact ⟨k + 1, by omega, by omega, le_mkSl rfl (Hp.le_addSp _ _) (by simp [go_sem, hwu])⟩
                  · have e1 : typeN p V L (letT hd k t) = (0, 40) := by rw [hlet]; simp [hkn]
                    simp only [go_sem, Nat.reduceEqDiff, Nat.reduceAdd, Nat.reduceSub, Nat.reduceLT, Nat.reduceMul, Nat.reduceBEq, Nat.reduceLeDiff, ↓reduceIte, Int.reduceToNat, Nat.reduceGT, Int.reduceLE, Int.reduceLT, Int.reduceGE, Int.reduceGT, Int.reduceEq, Int.reduceNe, reduceCtorEq, e1, decide_eq_false hkn]
                    exact ⟨k + 1, by omega, by omega, le_mkSl rfl (Hp.le_addSp _ _) (by simp [go_sem, hwu])⟩
                · refine callX_by (aw _ hg) ?_
                  rintro r hp9 ⟨rfl, rfl⟩
                  simp only [go_sem, Nat.reduceEqDiff, Nat.reduceAdd, Nat.reduceSub, Nat.reduceLT, Nat.reduceMul, Nat.reduceBEq, Nat.reduceLeDiff, ↓reduceIte, Int.reduceToNat, Nat.reduceGT, Int.reduceLE, Int.reduceLT, Int.reduceGE, Int.reduceGT, Int.reduceEq, Int.reduceNe, reduceCtorEq]
                  exact ret_same ⟨rfl, rfl⟩
          · have cd := fun hp => depthN_calls (nodesT t) t (Nat.le_refl _) (by omega) hp
            have cn := fun hp => nodesN_calls (nodesT t) t (Nat.le_refl _) (by omega) hp
            simp only [TermG.av, TermG.cs_eq] at cd cn
            refine callX_by (cd _) ?_
            rintro r hp5 ⟨rfl, rfl⟩
            simp only [go_sem, Nat.reduceEqDiff, Nat.reduceAdd, Nat.reduceSub, Nat.reduceLT, Nat.reduceMul, Nat.reduceBEq, Nat.reduceLeDiff, ↓reduceIte, Int.reduceToNat, Nat.reduceGT, Int.reduceLE, Int.reduceLT, Int.reduceGE, Int.reduceGT, Int.reduceEq, Int.reduceNe, reduceCtorEq]
            refine brK_mk (fun b4 => ?_) (fun b4 => ?_) <;> simp only [go_sem, Nat.reduceEqDiff, Nat.reduceAdd, Nat.reduceSub, Nat.reduceLT, Nat.reduceMul, Nat.reduceBEq, Nat.reduceLeDiff, ↓reduceIte, Int.reduceToNat, Nat.reduceGT, Int.reduceLE, Int.reduceLT, Int.reduceGE, Int.reduceGT, Int.reduceEq, Int.reduceNe, reduceCtorEq, b4]
            · refine callX_by (aw _ hg) ?_
              rintro r hp9 ⟨rfl, rfl⟩
              simp only [go_sem, Nat.reduceEqDiff, Nat.reduceAdd, Nat.reduceSub, Nat.reduceLT, Nat.reduceMul, Nat.reduceBEq, Nat.reduceLeDiff, ↓reduceIte, Int.reduceToNat, Nat.reduceGT, Int.reduceLE, Int.reduceLT, Int.reduceGE, Int.reduceGT, Int.reduceEq, Int.reduceNe, reduceCtorEq]
              exact ret_le (Hp.le_refl _) ⟨rfl, rfl⟩
            · refine callX_by (cn _) ?_
              rintro r hp6 ⟨rfl, rfl⟩
              simp only [go_sem, Nat.reduceEqDiff, Nat.reduceAdd, Nat.reduceSub, Nat.reduceLT, Nat.reduceMul, Nat.reduceBEq, Nat.reduceLeDiff, ↓reduceIte, Int.reduceToNat, Nat.reduceGT, Int.reduceLE, Int.reduceLT, Int.reduceGE, Int.reduceGT, Int.reduceEq, Int.reduceNe, reduceCtorEq]
              refine brK_mk (fun b5 => ?_) (fun b5 => ?_) <;> simp only [go_sem, Nat.reduceEqDiff, Nat.reduceAdd, Nat.reduceSub, Nat.reduceLT, Nat.reduceMul, Nat.reduceBEq, Nat.reduceLeDiff, ↓reduceIte, Int.reduceToNat, Nat.reduceGT, Int.reduceLE, Int.reduceLT, Int.reduceGE, Int.reduceGT, Int.reduceEq, Int.reduceNe, reduceCtorEq, b5]
              · refine callX_by (aw _ hg) ?_
                rintro r hp9 ⟨rfl, rfl⟩
                simp only [go_sem, Nat.reduceEqDiff, Nat.reduceAdd, Nat.reduceSub, Nat.reduceLT, Nat.reduceMul, Nat.reduceBEq, Nat.reduceLeDiff, ↓reduceIte, Int.reduceToNat, Nat.reduceGT, Int.reduceLE, Int.reduceLT, Int.reduceGE, Int.reduceGT, Int.reduceEq, Int.reduceNe, reduceCtorEq]
                exact ret_le (Hp.le_refl _) ⟨rfl, rfl⟩
              · have hd24 : depthT t < 24 := by have := of_decide_eq_false b4; omega
                have hn598 : nodesT t ≤ 598 := by have := of_decide_eq_false b5; omega
                have hdl := (prog_ok a.hp).hdl
                refine aw_loopX 154 (fun k : Nat => [(1, .lst 2 h1 (V.map ParamG.av)), (2, .lst 2 h2 (L.map ParamG.av)), (5, .ref q1 [.lst 3 p.hd (p.ds.map DeclG.av), .lst 9 p.hf (p.fs.map FunG.av)]), (9, .ref q2 [.v (.int .i64 t.op), .v (.int .i64 t.n), .v (.string (bs t.name)), .v (.int .i64 t.ty), .lst 6 t.ha (t.args.map TermG.av), .lst 7 t.hc (t.cls.map ClauseG.av)]), (11, .v (.int .i64 n0)), (12, .v (.int .i64 40)), (17, .v (.int .i64 k))])
                  (fun _ => hp6) (fun k => k ≤ p.ds.length + 1) (fun k => p.ds.length + 1 - k) 0 (Nat.zero_le _) (le_mkSl rfl (Hp.le_refl _) (by simp [go_sem])) ?_
                intro k hk
                refine awp_sound (mu := []) _ _ _ ?_
                simp only [go_sem, Nat.reduceEqDiff, Nat.reduceAdd, Nat.reduceSub, Nat.reduceLT, Nat.reduceMul, Nat.reduceBEq, Nat.reduceLeDiff, ↓reduceIte, Int.reduceToNat, Nat.reduceGT, Int.reduceLE, Int.reduceLT, Int.reduceGE, Int.reduceGT, Int.reduceEq, Int.reduceNe, reduceCtorEq]
                refine brK_mk (fun b6 => ?_) (fun b6 => ?_) <;> simp only [go_sem, Nat.reduceEqDiff, Nat.reduceAdd, Nat.reduceSub, Nat.reduceLT, Nat.reduceMul, Nat.reduceBEq, Nat.reduceLeDiff, ↓reduceIte, Int.reduceToNat, Nat.reduceGT, Int.reduceLE, Int.reduceLT, Int.reduceGE, Int.reduceGT, Int.reduceEq, Int.reduceNe, reduceCtorEq, b6]
                · have hk' : (k : Int) ≤ p.ds.length := of_decide_eq_true b6
                  have hwu : IntKind.i64.wrap ((k : Int) + 1) = ((k + 1 : Nat) : Int) := IntWalk.i64_in _ (by omega)
                  have hty : typB p.ds (k : Int) = true := by simp [typB]; omega
                  refine ⟨rfl, by simp, fun hd v hv => ?_⟩
                  have hdv := fun T cs => Hp.del_set _ _ T cs hv.1
                  simp only [hdv]
                  have hlet := typeN_let a hd (k : Int) hty hn598 hd24
                  rw [hT] at hlet
                  have c := fun hp (hg : GOk hp) => let_cast (pre := [p.av, paramsAV h1 V, paramsAV h2 L]) (ctype_calls p hpf h1 h2 V L (by omega) (by omega) (letT hd k t) hp hg)
                  simp only [ProgG.av, ProgG.cs, declsAV, funsAV, TermG.av, TermG.cs_eq, paramsAV, List.cons_append, List.nil_append] at c
                  refine callX_by (c _ hg) ?_
                  clear c
                  rintro r hp7 ⟨rfl, rfl⟩
                  by_cases hkn : (k : Int) = n0
                  · have e1 : typeN p V L (letT hd k t) = ((0, 40)) := by rw [hlet]; simp [hkn]
                    simp only [go_sem, Nat.reduceEqDiff, Nat.reduceAdd, Nat.reduceSub, Nat.reduceLT, Nat.reduceMul, Nat.reduceBEq, Nat.reduceLeDiff, ↓reduceIte, Int.reduceToNat, Nat.reduceGT, Int.reduceLE, Int.reduceLT, Int.reduceGE, Int.reduceGT, Int.reduceEq, Int.reduceNe, reduceCtorEq, e1, decide_eq_true hkn]
                    exact ⟨k + 1, by omega, by omega, le_mkSl rfl (Hp.le_addSp _ _) (by simp [go_sem, hwu])⟩
                  · have e1 : typeN p V L (letT hd k t) = (0, 40) := by rw [hlet]; simp [hkn]
                    simp only [go_sem, Nat.reduceEqDiff, Nat.reduceAdd, Nat.reduceSub, Nat.reduceLT, Nat.reduceMul, Nat.reduceBEq, Nat.reduceLeDiff, ↓reduceIte, Int.reduceToNat, Nat.reduceGT, Int.reduceLE, Int.reduceLT, Int.reduceGE, Int.reduceGT, Int.reduceEq, Int.reduceNe, reduceCtorEq, e1, decide_eq_false hkn]
                    exact ⟨k + 1, by omega, by omega, le_mkSl rfl (Hp.le_addSp _ _) (by simp [go_sem, hwu])⟩
                · refine callX_by (aw _ hg) ?_
                  rintro r hp9 ⟨rfl, rfl⟩
                  simp only [go_sem, Nat.reduceEqDiff, Nat.reduceAdd, Nat.reduceSub, Nat.reduceLT, Nat.reduceMul, Nat.reduceBEq, Nat.reduceLeDiff, ↓reduceIte, Int.reduceToNat, Nat.reduceGT, Int.reduceLE, Int.reduceLT, Int.reduceGE, Int.reduceGT, Int.reduceEq, Int.reduceNe, reduceCtorEq]
                  exact ret_le (Hp.le_refl _) ⟨rfl, rfl⟩
    · refine callX_by (aw _ hg) ?_
      rintro r hp9 ⟨rfl, rfl⟩
      simp only [go_sem, Nat.reduceEqDiff, Nat.reduceAdd, Nat.reduceSub, Nat.reduceLT, Nat.reduceMul, Nat.reduceBEq, Nat.reduceLeDiff, ↓reduceIte, Int.reduceToNat, Nat.reduceGT, Int.reduceLE, Int.reduceLT, Int.reduceGE, Int.reduceGT, Int.reduceEq, Int.reduceNe, reduceCtorEq]
      exact ret_same ⟨rfl, rfl⟩
  · refine callX_by (aw _ hg) ?_
    rintro r hp9 ⟨rfl, rfl⟩
    simp only [go_sem, Nat.reduceEqDiff, Nat.reduceAdd, Nat.reduceSub, Nat.reduceLT, Nat.reduceMul, Nat.reduceBEq, Nat.reduceLeDiff, ↓reduceIte, Int.reduceToNat, Nat.reduceGT, Int.reduceLE, Int.reduceLT, Int.reduceGE, Int.reduceGT, Int.reduceEq, Int.reduceNe, reduceCtorEq]
    exact ret_same ⟨rfl, rfl⟩
end Go.Proofs.Ytppoacgeiooppaa
