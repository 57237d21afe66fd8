/- The law of the layer 'term': TermFrees. -/
import Derived.Test.YtppoacgeiooppaaCT80
import Derived.Test.YtppoacgeiooppaaCT44
import Derived.Test.YtppoacgeiooppaaCT22
import Derived.Test.YtppoacgeiooppaaCT44
import Derived.Test.YtppoacgeiooppaaCT27
set_option linter.unusedSimpArgs false
set_option linter.unusedVariables false
set_option maxRecDepth 20000
set_option maxHeartbeats 4000000
namespace Go.Proofs.Ytppoacgeiooppaa
open Go.AL

end Go.Proofs.Ytppoacgeiooppaa
/- The law of the layer 'term': TermScopes. -/
set_option linter.unusedSimpArgs false
set_option linter.unusedVariables false
set_option maxRecDepth 20000
set_option maxHeartbeats 4000000
namespace Go.Proofs.Ytppoacgeiooppaa
open Go.AL

theorem free_has1 (t : TermG) (x : Bytes) : hasB (freeS t).1 x = fvT x t := by rw [freeS_eq]; exact has_fvL t x
theorem free_has2 (t : TermG) (x : Bytes) : hasB (freeS t).2 x = flT x t := by rw [freeS_eq]; exact has_flL t x
theorem free_len1 (t : TermG) : (freeS t).1.length ≤ nodesT t ∧ (freeS t).2.length ≤ nodesT t := by
  have h := free_lens t
  rw [freeS, sortS_len, sortS_len]; exact h
theorem has_appB (l r : List Bytes) (x : Bytes) : hasB (l ++ r) x = (hasB l x || hasB r x) := by simp [hasB]
section
variable {p : ProgG} {V L M : List Bytes} {t : TermG}
theorem is_valid (h : isB p (hasB V) (hasB L) t = true) : validT p.ds p.pf (hasB V) (hasB L) t = true := (okB_true h).2.2
theorem is_more (h : isB p (hasB V) (hasB L) t = true) : isB p (hasB (M ++ V)) (hasB (L ++ M)) t = true := by
  have hv := is_valid h
  rw [← h, isB, isB, validT_congr t (V' := hasB V) (L' := hasB L) (fun x hx => ?_) (fun x hx => ?_)]
  · rw [has_appB, free_valid1 t hv hx]; simp
  · rw [has_appB, free_valid2 t hv hx]; simp
theorem is_free (h : isB p (hasB V) (hasB L) t = true) : isB p (hasB (freeS t).1) (hasB (freeS t).2) t = true := by
  have hv := is_valid h
  rw [← h, isB, isB, validT_congr t (V' := hasB V) (L' := hasB L) (fun x hx => ?_) (fun x hx => ?_)]
  · rw [free_has1, hx, free_valid1 t hv hx]
  · rw [free_has2, hx, free_valid2 t hv hx]
end
theorem termScopes_calls (p : ProgG) (hpf : PFit p) (h1 h2 h3 : Value) (V L M : List Bytes) (t : TermG) (hs : shT t) (hl1 : V.length + M.length ≤ 8000000000000) (hl2 : L.length + M.length ≤ 8000000000000) (hp : Hp) (hg : GOk hp) :
    ACalls Try.prog 6 [p.av, strsAV h1 V, strsAV h2 L, strsAV h3 M, t.av] hp (fun r hp' => r = .v (.bool true) ∧ hp' = hp) := by
  refine acalls_of Try.func6 rfl (by decide +kernel) (awp_sound (mu := []) _ _ _ ?_)
  simp only [go_sem, Nat.reduceEqDiff, Nat.reduceAdd, Nat.reduceSub, Nat.reduceLT, Nat.reduceMul, Nat.reduceBEq, Nat.reduceLeDiff, ↓reduceIte, Int.reduceToNat, Nat.reduceGT, Int.reduceLE, Int.reduceLT, Int.reduceGE, Int.reduceGT, Int.reduceEq, Int.reduceNe, reduceCtorEq, ProgG.av, ProgG.cs, declsAV, funsAV, TermG.av, TermG.cs_eq, strsAV]
  intro q1 q2
  have aw : ∀ hp, GOk hp → ACalls Try.prog 23 [] hp (fun r hp' => r = .v (.bool true) ∧ hp' = hp) := fun hp hg => awake2_calls hp hg
  have c := fun hp => few_calls p 700 (by omega) hp
  have cf := fun hp => fits_t_calls t 700 (by omega) hp
  have ct := fun (h1 h2 : Value) (V L : List Bytes) hp (hg : GOk hp) => term_calls p hpf h1 h2 V L t hp hg
  simp only [ProgG.av, ProgG.cs, declsAV, funsAV, TermG.av, TermG.cs_eq, strsAV] at c cf ct
  refine callX_by (c _) ?_
  clear c
  rintro r hp1 ⟨rfl, rfl⟩
  simp only [go_sem, Nat.reduceEqDiff, Nat.reduceAdd, Nat.reduceSub, Nat.reduceLT, Nat.reduceMul, Nat.reduceBEq, Nat.reduceLeDiff, ↓reduceIte, Int.reduceToNat, Nat.reduceGT, Int.reduceLE, Int.reduceLT, Int.reduceGE, Int.reduceGT, Int.reduceEq, Int.reduceNe, reduceCtorEq]
  refine brK_mk (fun b1 => ?_) (fun b1 => ?_) <;> simp only [go_sem, Nat.reduceEqDiff, Nat.reduceAdd, Nat.reduceSub, Nat.reduceLT, Nat.reduceMul, Nat.reduceBEq, Nat.reduceLeDiff, ↓reduceIte, Int.reduceToNat, Nat.reduceGT, Int.reduceLE, Int.reduceLT, Int.reduceGE, Int.reduceGT, Int.reduceEq, Int.reduceNe, reduceCtorEq, b1]
  · refine callX_by (cf _) ?_
    clear cf
    rintro r hp2 ⟨rfl, rfl⟩
    simp only [go_sem, Nat.reduceEqDiff, Nat.reduceAdd, Nat.reduceSub, Nat.reduceLT, Nat.reduceMul, Nat.reduceBEq, Nat.reduceLeDiff, ↓reduceIte, Int.reduceToNat, Nat.reduceGT, Int.reduceLE, Int.reduceLT, Int.reduceGE, Int.reduceGT, Int.reduceEq, Int.reduceNe, reduceCtorEq]
    refine brK_mk (fun b2 => ?_) (fun b2 => ?_) <;> simp only [go_sem, Nat.reduceEqDiff, Nat.reduceAdd, Nat.reduceSub, Nat.reduceLT, Nat.reduceMul, Nat.reduceBEq, Nat.reduceLeDiff, ↓reduceIte, Int.reduceToNat, Nat.reduceGT, Int.reduceLE, Int.reduceLT, Int.reduceGE, Int.reduceGT, Int.reduceEq, Int.reduceNe, reduceCtorEq, b2]
    · have hn : nodesT t ≤ 700 := of_decide_eq_true b2
      refine callX_by (ct _ _ _ _ _ hg) ?_
      rintro r hp2 ⟨rfl, rfl⟩
      simp only [go_sem, Nat.reduceEqDiff, Nat.reduceAdd, Nat.reduceSub, Nat.reduceLT, Nat.reduceMul, Nat.reduceBEq, Nat.reduceLeDiff, ↓reduceIte, Int.reduceToNat, Nat.reduceGT, Int.reduceLE, Int.reduceLT, Int.reduceGE, Int.reduceGT, Int.reduceEq, Int.reduceNe, reduceCtorEq]
      by_cases hv : progB p = true
      · simp only [go_sem, Nat.reduceEqDiff, Nat.reduceAdd, Nat.reduceSub, Nat.reduceLT, Nat.reduceMul, Nat.reduceBEq, Nat.reduceLeDiff, ↓reduceIte, Int.reduceToNat, Nat.reduceGT, Int.reduceLE, Int.reduceLT, Int.reduceGE, Int.reduceGT, Int.reduceEq, Int.reduceNe, reduceCtorEq, hv, if_true, Bool.true_and]
        refine brK_mk (fun b3 => ?_) (fun b3 => ?_) <;> simp only [go_sem, Nat.reduceEqDiff, Nat.reduceAdd, Nat.reduceSub, Nat.reduceLT, Nat.reduceMul, Nat.reduceBEq, Nat.reduceLeDiff, ↓reduceIte, Int.reduceToNat, Nat.reduceGT, Int.reduceLE, Int.reduceLT, Int.reduceGE, Int.reduceGT, Int.reduceEq, Int.reduceNe, reduceCtorEq, b3]
        · have his : isB p (hasB V) (hasB L) t = true := b3
          have hvd := is_valid his
          have hln := free_len1 t
          have cr := fun hp => freeT_calls t (by omega) hs hp
          simp only [TermG.av, TermG.cs_eq, strsAV] at cr
          refine callX_by (cr _) ?_
          clear cr
          rintro r hp3 ⟨f1, f2, rfl, rfl⟩
          simp only [go_sem, Nat.reduceEqDiff, Nat.reduceAdd, Nat.reduceSub, Nat.reduceLT, Nat.reduceMul, Nat.reduceBEq, Nat.reduceLeDiff, ↓reduceIte, Int.reduceToNat, Nat.reduceGT, Int.reduceLE, Int.reduceLT, Int.reduceGE, Int.reduceGT, Int.reduceEq, Int.reduceNe, reduceCtorEq, List.length_map]
          refine aw_loopX 120 (fun k : Nat => [(1, .lst 1 h1 (V.map fun s => .v (.string (bs s)))), (2, .lst 1 h2 (L.map fun s => .v (.string (bs s)))), (3, .lst 1 h3 (M.map fun s => .v (.string (bs s)))), (5, .ref q1 [.lst 3 p.hd (p.ds.map DeclG.av), .lst 9 p.hf (p.fs.map FunG.av)]), (9, .ref q2 [.v (.int .i64 t.op), .v (.int .i64 t.n), .v (.string (bs t.name)), .v (.int .i64 t.ty), .lst 6 t.ha (t.args.map TermG.av), .lst 7 t.hc (t.cls.map ClauseG.av)]), (13, .lst 1 f1 ((freeS t).1.map fun s => .v (.string (bs s)))), (14, .lst 1 f2 ((freeS t).2.map fun s => .v (.string (bs s)))), (63, .lst 1 f1 ((freeS t).1.map fun s => .v (.string (bs s)))), (64, .v (.int .i64 (freeS t).1.length)), (65, .v (.int .i64 k))]) (fun _ => hp2) (fun k => k ≤ (freeS t).1.length) (fun k => (freeS t).1.length - k) 0 (Nat.zero_le _)
            (le_mkSl rfl (Hp.le_trans (Hp.le_addSp _ _) (Hp.le_addSp _ _)) (by simp [go_sem])) ?_
          intro k hk
          refine awp_sound (mu := []) _ _ _ ?_
          simp only [go_sem, Nat.reduceEqDiff, Nat.reduceAdd, Nat.reduceSub, Nat.reduceLT, Nat.reduceMul, Nat.reduceBEq, Nat.reduceLeDiff, ↓reduceIte, Int.reduceToNat, Nat.reduceGT, Int.reduceLE, Int.reduceLT, Int.reduceGE, Int.reduceGT, Int.reduceEq, Int.reduceNe, reduceCtorEq]
          refine brK_mk (fun b4 => ?_) (fun b4 => ?_) <;> simp only [go_sem, Nat.reduceEqDiff, Nat.reduceAdd, Nat.reduceSub, Nat.reduceLT, Nat.reduceMul, Nat.reduceBEq, Nat.reduceLeDiff, ↓reduceIte, Int.reduceToNat, Nat.reduceGT, Int.reduceLE, Int.reduceLT, Int.reduceGE, Int.reduceGT, Int.reduceEq, Int.reduceNe, reduceCtorEq, b4]
          · have hk' : k < (freeS t).1.length := by simpa using b4
            obtain ⟨x, hx⟩ := someAt (freeS t).1 k hk'
            have hwk : IntKind.i64.wrap ((k : Int) + 1) = ((k + 1 : Nat) : Int) := IntWalk.i64_in _ (by omega)
            have hxv : hasB V x = true := free_valid1 t hvd (by rw [← free_has1]; exact has_iff.2 (List.mem_of_getElem? hx))
            simp only [go_sem, Nat.reduceEqDiff, Nat.reduceAdd, Nat.reduceSub, Nat.reduceLT, Nat.reduceMul, Nat.reduceBEq, Nat.reduceLeDiff, ↓reduceIte, Int.reduceToNat, Nat.reduceGT, Int.reduceLE, Int.reduceLT, Int.reduceGE, Int.reduceGT, Int.reduceEq, Int.reduceNe, reduceCtorEq, strAt _ _ _ hx]
            have ci := in_calls h1 V x hp2
            simp only [strsAV] at ci
            refine callX_by ci ?_
            rintro r hp3 ⟨rfl, rfl⟩
            simp only [go_sem, Nat.reduceEqDiff, Nat.reduceAdd, Nat.reduceSub, Nat.reduceLT, Nat.reduceMul, Nat.reduceBEq, Nat.reduceLeDiff, ↓reduceIte, Int.reduceToNat, Nat.reduceGT, Int.reduceLE, Int.reduceLT, Int.reduceGE, Int.reduceGT, Int.reduceEq, Int.reduceNe, reduceCtorEq, hxv, hwk]
            exact ⟨k + 1, by omega, by omega, le_mkSl rfl (Hp.le_refl _) (by simp [go_sem, hwk])⟩
          · have e1 : k = (freeS t).1.length := by simp at b4; omega
            subst e1
            refine aw_loopX 120 (fun k : Nat => [(1, .lst 1 h1 (V.map fun s => .v (.string (bs s)))), (2, .lst 1 h2 (L.map fun s => .v (.string (bs s)))), (3, .lst 1 h3 (M.map fun s => .v (.string (bs s)))), (5, .ref q1 [.lst 3 p.hd (p.ds.map DeclG.av), .lst 9 p.hf (p.fs.map FunG.av)]), (9, .ref q2 [.v (.int .i64 t.op), .v (.int .i64 t.n), .v (.string (bs t.name)), .v (.int .i64 t.ty), .lst 6 t.ha (t.args.map TermG.av), .lst 7 t.hc (t.cls.map ClauseG.av)]), (13, .lst 1 f1 ((freeS t).1.map fun s => .v (.string (bs s)))), (14, .lst 1 f2 ((freeS t).2.map fun s => .v (.string (bs s)))), (74, .lst 1 f2 ((freeS t).2.map fun s => .v (.string (bs s)))), (75, .v (.int .i64 (freeS t).2.length)), (76, .v (.int .i64 k))]) (fun _ => hp2) (fun k => k ≤ (freeS t).2.length) (fun k => (freeS t).2.length - k) 0 (Nat.zero_le _)
              (le_mkSl rfl (Hp.le_refl _) (by simp [go_sem])) ?_
            intro k hk
            refine awp_sound (mu := []) _ _ _ ?_
            simp only [go_sem, Nat.reduceEqDiff, Nat.reduceAdd, Nat.reduceSub, Nat.reduceLT, Nat.reduceMul, Nat.reduceBEq, Nat.reduceLeDiff, ↓reduceIte, Int.reduceToNat, Nat.reduceGT, Int.reduceLE, Int.reduceLT, Int.reduceGE, Int.reduceGT, Int.reduceEq, Int.reduceNe, reduceCtorEq]
            refine brK_mk (fun b5 => ?_) (fun b5 => ?_) <;> simp only [go_sem, Nat.reduceEqDiff, Nat.reduceAdd, Nat.reduceSub, Nat.reduceLT, Nat.reduceMul, Nat.reduceBEq, Nat.reduceLeDiff, ↓reduceIte, Int.reduceToNat, Nat.reduceGT, Int.reduceLE, Int.reduceLT, Int.reduceGE, Int.reduceGT, Int.reduceEq, Int.reduceNe, reduceCtorEq, b5]
            · have hk' : k < (freeS t).2.length := by simpa using b5
              obtain ⟨x, hx⟩ := someAt (freeS t).2 k hk'
              have hwk : IntKind.i64.wrap ((k : Int) + 1) = ((k + 1 : Nat) : Int) := IntWalk.i64_in _ (by omega)
              have hxv : hasB L x = true := free_valid2 t hvd (by rw [← free_has2]; exact has_iff.2 (List.mem_of_getElem? hx))
              simp only [go_sem, Nat.reduceEqDiff, Nat.reduceAdd, Nat.reduceSub, Nat.reduceLT, Nat.reduceMul, Nat.reduceBEq, Nat.reduceLeDiff, ↓reduceIte, Int.reduceToNat, Nat.reduceGT, Int.reduceLE, Int.reduceLT, Int.reduceGE, Int.reduceGT, Int.reduceEq, Int.reduceNe, reduceCtorEq, strAt _ _ _ hx]
              have ci := in_calls h2 L x hp2
              simp only [strsAV] at ci
              refine callX_by ci ?_
              rintro r hp3 ⟨rfl, rfl⟩
              simp only [go_sem, Nat.reduceEqDiff, Nat.reduceAdd, Nat.reduceSub, Nat.reduceLT, Nat.reduceMul, Nat.reduceBEq, Nat.reduceLeDiff, ↓reduceIte, Int.reduceToNat, Nat.reduceGT, Int.reduceLE, Int.reduceLT, Int.reduceGE, Int.reduceGT, Int.reduceEq, Int.reduceNe, reduceCtorEq, hxv, hwk]
              exact ⟨k + 1, by omega, by omega, le_mkSl rfl (Hp.le_refl _) (by simp [go_sem, hwk])⟩
            · have e1 : k = (freeS t).2.length := by simp at b5; omega
              subst e1
              refine draw_by (mu := []) (fun _ => True) (.take 0 (.take 1 (.take 2 (.take 4 (.take 5 (.take 7 (.br 3 (.br 6 (.br 8 (.take 9 (.take 10 (.take 11 (.take 12 (.take 13 (.done)))))) (.stop)) (.stop)) (.stop)))))))) (by decide +kernel) trivial (by decide +kernel) (by decide +kernel) ?_
              simp only [go_sem, Nat.reduceEqDiff, Nat.reduceAdd, Nat.reduceSub, Nat.reduceLT, Nat.reduceMul, Nat.reduceBEq, Nat.reduceLeDiff, ↓reduceIte, Int.reduceToNat, Nat.reduceGT, Int.reduceLE, Int.reduceLT, Int.reduceGE, Int.reduceGT, Int.reduceEq, Int.reduceNe, reduceCtorEq]
              have w1 := rwith_calls h3 h1 M V (by omega)
              have w2 := rwith_calls h2 h3 L M (by omega)
              simp only [strsAV] at w1 w2
              refine callX_by (w1 _) ?_
              rintro r hp3 ⟨h4, rfl, rfl⟩
              simp only [go_sem, Nat.reduceEqDiff, Nat.reduceAdd, Nat.reduceSub, Nat.reduceLT, Nat.reduceMul, Nat.reduceBEq, Nat.reduceLeDiff, ↓reduceIte, Int.reduceToNat, Nat.reduceGT, Int.reduceLE, Int.reduceLT, Int.reduceGE, Int.reduceGT, Int.reduceEq, Int.reduceNe, reduceCtorEq]
              refine callX_by (w2 _) ?_
              rintro r hp4 ⟨h5, rfl, rfl⟩
              simp only [go_sem, Nat.reduceEqDiff, Nat.reduceAdd, Nat.reduceSub, Nat.reduceLT, Nat.reduceMul, Nat.reduceBEq, Nat.reduceLeDiff, ↓reduceIte, Int.reduceToNat, Nat.reduceGT, Int.reduceLE, Int.reduceLT, Int.reduceGE, Int.reduceGT, Int.reduceEq, Int.reduceNe, reduceCtorEq]
              refine callX_by (ct _ _ _ _ _ hg) ?_
              rintro r hp3 ⟨rfl, rfl⟩
              simp only [go_sem, Nat.reduceEqDiff, Nat.reduceAdd, Nat.reduceSub, Nat.reduceLT, Nat.reduceMul, Nat.reduceBEq, Nat.reduceLeDiff, ↓reduceIte, Int.reduceToNat, Nat.reduceGT, Int.reduceLE, Int.reduceLT, Int.reduceGE, Int.reduceGT, Int.reduceEq, Int.reduceNe, reduceCtorEq, hv, if_true, Bool.true_and, is_more his]
              refine callX_by (ct _ _ _ _ _ hg) ?_
              rintro r hp3 ⟨rfl, rfl⟩
              simp only [go_sem, Nat.reduceEqDiff, Nat.reduceAdd, Nat.reduceSub, Nat.reduceLT, Nat.reduceMul, Nat.reduceBEq, Nat.reduceLeDiff, ↓reduceIte, Int.reduceToNat, Nat.reduceGT, Int.reduceLE, Int.reduceLT, Int.reduceGE, Int.reduceGT, Int.reduceEq, Int.reduceNe, reduceCtorEq, hv, if_true, Bool.true_and, is_free his]
              refine callX_by (aw _ hg) ?_
              rintro r hp3 ⟨rfl, rfl⟩
              simp only [go_sem, Nat.reduceEqDiff, Nat.reduceAdd, Nat.reduceSub, Nat.reduceLT, Nat.reduceMul, Nat.reduceBEq, Nat.reduceLeDiff, ↓reduceIte, Int.reduceToNat, Nat.reduceGT, Int.reduceLE, Int.reduceLT, Int.reduceGE, Int.reduceGT, Int.reduceEq, Int.reduceNe, reduceCtorEq]
              exact ret_same ⟨rfl, rfl⟩
        · refine callX_by (aw _ hg) ?_
          rintro r hp3 ⟨rfl, rfl⟩
          simp only [go_sem, Nat.reduceEqDiff, Nat.reduceAdd, Nat.reduceSub, Nat.reduceLT, Nat.reduceMul, Nat.reduceBEq, Nat.reduceLeDiff, ↓reduceIte, Int.reduceToNat, Nat.reduceGT, Int.reduceLE, Int.reduceLT, Int.reduceGE, Int.reduceGT, Int.reduceEq, Int.reduceNe, reduceCtorEq]
          exact ret_same ⟨rfl, rfl⟩
      · have hv' : progB p = false := by simpa using hv
        simp only [go_sem, Nat.reduceEqDiff, Nat.reduceAdd, Nat.reduceSub, Nat.reduceLT, Nat.reduceMul, Nat.reduceBEq, Nat.reduceLeDiff, ↓reduceIte, Int.reduceToNat, Nat.reduceGT, Int.reduceLE, Int.reduceLT, Int.reduceGE, Int.reduceGT, Int.reduceEq, Int.reduceNe, reduceCtorEq, hv', if_false, Bool.false_and, Bool.false_eq_true]
        refine callX_by (aw _ hg) ?_
        rintro r hp3 ⟨rfl, rfl⟩
        simp only [go_sem, Nat.reduceEqDiff, Nat.reduceAdd, Nat.reduceSub, Nat.reduceLT, Nat.reduceMul, Nat.reduceBEq, Nat.reduceLeDiff, ↓reduceIte, Int.reduceToNat, Nat.reduceGT, Int.reduceLE, Int.reduceLT, Int.reduceGE, Int.reduceGT, Int.reduceEq, Int.reduceNe, reduceCtorEq]
        exact ret_same ⟨rfl, rfl⟩
    · refine callX_by (aw _ hg) ?_
      rintro r hp3 ⟨rfl, rfl⟩
      simp only [go_sem, Nat.reduceEqDiff, Nat.reduceAdd, Nat.reduceSub, Nat.reduceLT, Nat.reduceMul, Nat.reduceBEq, Nat.reduceLeDiff, ↓reduceIte, Int.reduceToNat, Nat.reduceGT, Int.reduceLE, Int.reduceLT, Int.reduceGE, Int.reduceGT, Int.reduceEq, Int.reduceNe, reduceCtorEq]
      exact ret_same ⟨rfl, rfl⟩
  · refine callX_by (aw _ hg) ?_
    rintro r hp3 ⟨rfl, rfl⟩
    simp only [go_sem, Nat.reduceEqDiff, Nat.reduceAdd, Nat.reduceSub, Nat.reduceLT, Nat.reduceMul, Nat.reduceBEq, Nat.reduceLeDiff, ↓reduceIte, Int.reduceToNat, Nat.reduceGT, Int.reduceLE, Int.reduceLT, Int.reduceGE, Int.reduceGT, Int.reduceEq, Int.reduceNe, reduceCtorEq]
    exact ret_same ⟨rfl, rfl⟩
end Go.Proofs.Ytppoacgeiooppaa
