/- The reference of the layer 'term': heads, Is. -/
import Derived.Test.YtkoachnlimebaaaGreatDoorCT27
set_option linter.unusedSimpArgs false
set_option linter.unusedVariables false
set_option maxRecDepth 20000
set_option maxHeartbeats 4000000
namespace Go.Proofs.YtkoachnlimebaaaGreatDoor
open Go.AL

def headsF (p : ProgG) : Bool := !decide ((p.fs.length : Int) < 1) && (!decide ((p.fs.length : Int) > 12) && headsR p.ds 0 [] p.fs)
theorem heads_calls (p : ProgG) (hpf : PFit p) (hp : Hp) : ACalls Tryz.prog 87 [p.av] hp (fun r hp' => r = .v (.bool (headsF p)) ∧ hp' = hp) := by
  refine acalls_of Tryz.func87 rfl (by decide +kernel) (awp_sound (mu := []) _ _ _ ?_)
  simp only [go_sem, Nat.reduceEqDiff, Nat.reduceAdd, Nat.reduceSub, Nat.reduceLT, Nat.reduceBEq, Nat.reduceLeDiff, ↓reduceIte, Int.reduceToNat, Int.reduceLE, Int.reduceLT, Int.reduceEq, reduceCtorEq, ProgG.av, ProgG.cs, declsAV, funsAV]
  intro q1
  refine brK_mk (fun b1 => ?_) (fun b1 => ?_) <;> simp only [go_sem, Nat.reduceEqDiff, Nat.reduceAdd, Nat.reduceSub, Nat.reduceLT, Nat.reduceBEq, Nat.reduceLeDiff, ↓reduceIte, Int.reduceToNat, Int.reduceLE, Int.reduceLT, Int.reduceEq, reduceCtorEq, b1]
  · exact ret_same ⟨by simp only [headsF, b1, Bool.and_true, Bool.true_and, Bool.and_false, Bool.false_and, Bool.or_true, Bool.true_or, Bool.or_false, Bool.false_or, Bool.not_true, Bool.not_false], rfl⟩
  · refine brK_mk (fun b2 => ?_) (fun b2 => ?_) <;> simp only [go_sem, Nat.reduceEqDiff, Nat.reduceAdd, Nat.reduceSub, Nat.reduceLT, Nat.reduceBEq, Nat.reduceLeDiff, ↓reduceIte, Int.reduceToNat, Int.reduceLE, Int.reduceLT, Int.reduceEq, reduceCtorEq, b2]
    · exact ret_same ⟨by simp only [headsF, b1, b2, Bool.and_true, Bool.true_and, Bool.and_false, Bool.false_and, Bool.or_true, Bool.true_or, Bool.or_false, Bool.false_or, Bool.not_true, Bool.not_false], rfl⟩
    · have hfl : p.fs.length ≤ 12 := by have := of_decide_eq_false b2; omega
      have hfw : headsF p = headsR p.ds 0 [] p.fs := by simp only [headsF, b1, b2, Bool.and_true, Bool.true_and, Bool.and_false, Bool.false_and, Bool.or_true, Bool.true_or, Bool.or_false, Bool.false_or, Bool.not_true, Bool.not_false]
      refine aw_loopX 111 (fun k : Nat => [(1, .ref q1 [.lst 3 p.hd (p.ds.map DeclG.av), .lst 9 p.hf (p.fs.map FunG.av)]), (20, .lst 9 p.hf (p.fs.map FunG.av)), (21, .v (.int .i64 p.fs.length)), (22, .v (.int .i64 k))])
        (fun _ => hp) (fun k => k ≤ p.fs.length ∧ headsR p.ds k ((p.fs.take k).map FunG.name) (p.fs.drop k) = headsR p.ds 0 [] p.fs) (fun k => p.fs.length - k) 0 ⟨Nat.zero_le _, rfl⟩ (le_mkSl rfl (Hp.le_refl _) (by simp [go_sem])) ?_
      rintro k ⟨hk, hd⟩
      refine awp_sound (mu := []) _ _ _ ?_
      simp only [go_sem, Nat.reduceEqDiff, Nat.reduceAdd, Nat.reduceSub, Nat.reduceLT, Nat.reduceBEq, Nat.reduceLeDiff, ↓reduceIte, Int.reduceToNat, Int.reduceLE, Int.reduceLT, Int.reduceEq, reduceCtorEq]
      refine brK_mk (fun b3 => ?_) (fun b3 => ?_) <;> simp only [go_sem, Nat.reduceEqDiff, Nat.reduceAdd, Nat.reduceSub, Nat.reduceLT, Nat.reduceBEq, Nat.reduceLeDiff, ↓reduceIte, Int.reduceToNat, Int.reduceLE, Int.reduceLT, Int.reduceEq, reduceCtorEq, b3]
      · have hk' : k < p.fs.length := by simpa using b3
        obtain ⟨f, hf⟩ := someAt p.fs k hk'
        have hwu : IntKind.i64.wrap ((k : Int) + 1) = ((k + 1 : Nat) : Int) := IntWalk.i64_in _ (by omega)
        have htk : (p.fs.take (k + 1)).map FunG.name = (p.fs.take k).map FunG.name ++ [f.name] := by rw [List.take_add_one, hf]; simp
        have hpfb := hpf f (List.mem_of_getElem? hf)
        rw [dropK hf, headsR] at hd
        have bad : headR p.ds k ((p.fs.take k).map FunG.name) f = false → headsF p = false := fun h => by rw [hfw, ← hd, h, Bool.false_and]
        simp only [go_sem, Nat.reduceEqDiff, Nat.reduceAdd, Nat.reduceSub, Nat.reduceLT, Nat.reduceBEq, Nat.reduceLeDiff, ↓reduceIte, Int.reduceToNat, Int.reduceLE, Int.reduceLT, Int.reduceEq, reduceCtorEq, mapAt FunG.av _ _ _ hf, FunG.av, FunG.cs, paramsAV]
        intro v hv
        have hds := fun T cs => Hp.del_set _ _ T cs hv.1
        simp only [go_sem, Nat.reduceEqDiff, Nat.reduceAdd, Nat.reduceSub, Nat.reduceLT, Nat.reduceBEq, Nat.reduceLeDiff, ↓reduceIte, Int.reduceToNat, Int.reduceLE, Int.reduceLT, Int.reduceEq, reduceCtorEq, hds]
        refine draw_by (mu := []) (fun _ => True) (.take 0 (.take 1 (.br 2 (.take 3 (.take 4 (.take 5 (.take 6 (.take 7 (.take 8 (.take 9 (.take 10 (.take 11 (.take 12 (.take 13 (.take 14 (.take 15 (.take 16 (.take 17 (.take 18 (.take 19 (.take 20 (.take 21 (.take 22 (.take 23 (.take 24 (.take 25 (.take 27 (.take 28 (.take 29 (.br 26 (.br 30 (.take 31 (.take 32 (.done))) (.stop)) (.stop)))))))))))))))))))))))))))) (.stop)))) (by decide +kernel) trivial (by decide +kernel) (by decide +kernel) ?_
        simp only [go_sem, Nat.reduceEqDiff, Nat.reduceAdd, Nat.reduceSub, Nat.reduceLT, Nat.reduceBEq, Nat.reduceLeDiff, ↓reduceIte, Int.reduceToNat, Int.reduceLE, Int.reduceLT, Int.reduceEq, reduceCtorEq, hds]
        refine callX_by (rname_calls f.name hp) ?_
        rintro r hp2 ⟨rfl, rfl⟩
        simp only [go_sem, Nat.reduceEqDiff, Nat.reduceAdd, Nat.reduceSub, Nat.reduceLT, Nat.reduceBEq, Nat.reduceLeDiff, ↓reduceIte, Int.reduceToNat, Int.reduceLE, Int.reduceLT, Int.reduceEq, reduceCtorEq, ← name_same]
        refine brK_mk (fun b4 => ?_) (fun b4 => ?_) <;> simp only [go_sem, Nat.reduceEqDiff, Nat.reduceAdd, Nat.reduceSub, Nat.reduceLT, Nat.reduceBEq, Nat.reduceLeDiff, ↓reduceIte, Int.reduceToNat, Int.reduceLE, Int.reduceLT, Int.reduceEq, reduceCtorEq, b4]
        · refine brK_mk (fun b5 => ?_) (fun b5 => ?_) <;> simp only [go_sem, Nat.reduceEqDiff, Nat.reduceAdd, Nat.reduceSub, Nat.reduceLT, Nat.reduceBEq, Nat.reduceLeDiff, ↓reduceIte, Int.reduceToNat, Int.reduceLE, Int.reduceLT, Int.reduceEq, reduceCtorEq, b5, List.length_map]
          · have h : typB p.ds f.res = false := by have := of_decide_eq_true b5; simp [typB]; omega
            exact ret_same ⟨by rw [bad (by rw [headR, h, Bool.false_and, Bool.and_false])], rfl⟩
          · refine brK_mk (fun b6 => ?_) (fun b6 => ?_) <;> simp only [go_sem, Nat.reduceEqDiff, Nat.reduceAdd, Nat.reduceSub, Nat.reduceLT, Nat.reduceBEq, Nat.reduceLeDiff, ↓reduceIte, Int.reduceToNat, Int.reduceLE, Int.reduceLT, Int.reduceEq, reduceCtorEq, b6]
            · have h : typB p.ds f.res = false := by have := of_decide_eq_true b6; simp [typB]; omega
              exact ret_same ⟨by rw [bad (by rw [headR, h, Bool.false_and, Bool.and_false])], rfl⟩
            · have hres : typB p.ds f.res = true := by have h1 := of_decide_eq_false b5; have h2 := of_decide_eq_false b6; simp [typB]; omega
              refine brK_mk (fun b7 => ?_) (fun b7 => ?_) <;> simp only [go_sem, Nat.reduceEqDiff, Nat.reduceAdd, Nat.reduceSub, Nat.reduceLT, Nat.reduceBEq, Nat.reduceLeDiff, ↓reduceIte, Int.reduceToNat, Int.reduceLE, Int.reduceLT, Int.reduceEq, reduceCtorEq, b7]
              · exact ret_same ⟨by rw [bad (by simp only [headR, b7, Bool.and_true, Bool.true_and, Bool.and_false, Bool.false_and, Bool.or_true, Bool.true_or, Bool.or_false, Bool.false_or, Bool.not_true, Bool.not_false])], rfl⟩
              · have hpl6 : f.params.length ≤ 6 := by have := of_decide_eq_false b7; omega
                have c := rparams_calls f.hp f.params (by omega) hp2
                simp only [paramsAV] at c
                refine callX_by c ?_
                clear c
                rintro r hp3 ⟨h53, rfl, rfl⟩
                simp only [go_sem, Nat.reduceEqDiff, Nat.reduceAdd, Nat.reduceSub, Nat.reduceLT, Nat.reduceBEq, Nat.reduceLeDiff, ↓reduceIte, Int.reduceToNat, Int.reduceLE, Int.reduceLT, Int.reduceEq, reduceCtorEq, List.length_map]
                have c := names_calls h53 (f.params.map ParamG.name) f.params.length hp3
                refine callX_by c ?_
                clear c
                rintro r hp4 ⟨rfl, rfl⟩
                simp only [go_sem, Nat.reduceEqDiff, Nat.reduceAdd, Nat.reduceSub, Nat.reduceLT, Nat.reduceBEq, Nat.reduceLeDiff, ↓reduceIte, Int.reduceToNat, Int.reduceLE, Int.reduceLT, Int.reduceEq, reduceCtorEq, List.length_map, decide_true, Bool.and_true]
                refine brK_mk (fun b8 => ?_) (fun b8 => ?_) <;> simp only [go_sem, Nat.reduceEqDiff, Nat.reduceAdd, Nat.reduceSub, Nat.reduceLT, Nat.reduceBEq, Nat.reduceLeDiff, ↓reduceIte, Int.reduceToNat, Int.reduceLE, Int.reduceLT, Int.reduceEq, reduceCtorEq, b8]
                · refine ⟨by omega, fun a' c' => ?_⟩
                  have hti : (p.fs.take k).length = k := by rw [List.length_take]; omega
                  refine aw_loopX 111 (fun j : Nat => [(1, .ref q1 [.lst 3 p.hd (p.ds.map DeclG.av), .lst 9 p.hf (p.fs.map FunG.av)]), (3, .v (.int .i64 k)), (4, .ref (.pointer (some ⟨v, 0, none⟩)) [.v (.string (bs f.name)), .lst 2 f.hp (f.params.map ParamG.av), .v (.int .i64 f.res), .v (.int .i64 f.body.op), .v (.int .i64 f.body.n), .v (.string (bs f.body.name)), .v (.int .i64 f.body.ty), .lst 6 f.body.ha (f.body.args.map TermG.av), .lst 7 f.body.hc (f.body.cls.map ClauseG.av)]), (20, .lst 9 p.hf (p.fs.map FunG.av)), (21, .v (.int .i64 p.fs.length)), (22, .v (.int .i64 k)), (63, .lst 9 (.slice a' k c') ((p.fs.take k).map FunG.av)), (64, .v (.int .i64 k)), (65, .v (.int .i64 j))])
                    (fun _ => hp4) (fun j => j ≤ k ∧ hasB (((p.fs.take k).map FunG.name).drop j) f.name = hasB ((p.fs.take k).map FunG.name) f.name) (fun j => k - j) 0 ⟨Nat.zero_le _, rfl⟩ (le_mkSl rfl (by simp only [go_sem, Nat.reduceEqDiff, Nat.reduceAdd, Nat.reduceSub, Nat.reduceLT, Nat.reduceBEq, Nat.reduceLeDiff, ↓reduceIte, Int.reduceToNat, Int.reduceLE, Int.reduceLT, Int.reduceEq, reduceCtorEq, hds]; exact Hp.le_refl _) (by simp [go_sem, List.map_take]; omega)) ?_
                  rintro j ⟨hj, hsn⟩
                  refine awp_sound (mu := []) _ _ _ ?_
                  simp only [go_sem, Nat.reduceEqDiff, Nat.reduceAdd, Nat.reduceSub, Nat.reduceLT, Nat.reduceBEq, Nat.reduceLeDiff, ↓reduceIte, Int.reduceToNat, Int.reduceLE, Int.reduceLT, Int.reduceEq, reduceCtorEq]
                  refine brK_mk (fun b9 => ?_) (fun b9 => ?_) <;> simp only [go_sem, Nat.reduceEqDiff, Nat.reduceAdd, Nat.reduceSub, Nat.reduceLT, Nat.reduceBEq, Nat.reduceLeDiff, ↓reduceIte, Int.reduceToNat, Int.reduceLE, Int.reduceLT, Int.reduceEq, reduceCtorEq, b9]
                  · have hj' : j < k := by simpa using b9
                    obtain ⟨g, hgk⟩ := someAt (p.fs.take k) j (by omega)
                    have hwj : IntKind.i64.wrap ((j : Int) + 1) = ((j + 1 : Nat) : Int) := IntWalk.i64_in _ (by omega)
                    have hgn : ((p.fs.take k).map FunG.name)[j]? = some g.name := by rw [List.getElem?_map, hgk]; rfl
                    rw [dropK hgn] at hsn
                    simp only [hasB, List.any_cons] at hsn
                    simp only [go_sem, Nat.reduceEqDiff, Nat.reduceAdd, Nat.reduceSub, Nat.reduceLT, Nat.reduceBEq, Nat.reduceLeDiff, ↓reduceIte, Int.reduceToNat, Int.reduceLE, Int.reduceLT, Int.reduceEq, reduceCtorEq, mapAt FunG.av _ _ _ hgk, FunG.av, FunG.cs, paramsAV]
                    intro v2 hv2
                    have hds2 := fun T cs => Hp.del_set _ _ T cs hv2.1
                    refine brK_mk (fun c1 => ?_) (fun c1 => ?_) <;> simp only [go_sem, Nat.reduceEqDiff, Nat.reduceAdd, Nat.reduceSub, Nat.reduceLT, Nat.reduceBEq, Nat.reduceLeDiff, ↓reduceIte, Int.reduceToNat, Int.reduceLE, Int.reduceLT, Int.reduceEq, reduceCtorEq, c1, hds2, hwj]
                    · rw [c1, Bool.true_or] at hsn
                      exact ret_same ⟨by rw [bad (by rw [headR, show hasB ((p.fs.take k).map FunG.name) f.name = true from hsn.symm, Bool.not_true, Bool.false_and, Bool.and_false, Bool.and_false, Bool.and_false, Bool.and_false])], rfl⟩
                    · rw [c1, Bool.false_or] at hsn
                      exact ⟨j + 1, by omega, ⟨by omega, hsn⟩, le_mkSl rfl (by simp only [go_sem, Nat.reduceEqDiff, Nat.reduceAdd, Nat.reduceSub, Nat.reduceLT, Nat.reduceBEq, Nat.reduceLeDiff, ↓reduceIte, Int.reduceToNat, Int.reduceLE, Int.reduceLT, Int.reduceEq, reduceCtorEq, hds2]; exact Hp.le_refl _) (by simp [go_sem, hwj])⟩
                  · have e : j = k := by simp at b9; omega
                    rw [e, List.drop_of_length_le (by rw [List.length_map]; omega)] at hsn
                    have hsn : hasB ((p.fs.take k).map FunG.name) f.name = false := hsn.symm
                    refine aw_loopX 111 (fun i : Nat => [(1, .ref q1 [.lst 3 p.hd (p.ds.map DeclG.av), .lst 9 p.hf (p.fs.map FunG.av)]), (3, .v (.int .i64 k)), (4, .ref (.pointer (some ⟨v, 0, none⟩)) [.v (.string (bs f.name)), .lst 2 f.hp (f.params.map ParamG.av), .v (.int .i64 f.res), .v (.int .i64 f.body.op), .v (.int .i64 f.body.n), .v (.string (bs f.body.name)), .v (.int .i64 f.body.ty), .lst 6 f.body.ha (f.body.args.map TermG.av), .lst 7 f.body.hc (f.body.cls.map ClauseG.av)]), (20, .lst 9 p.hf (p.fs.map FunG.av)), (21, .v (.int .i64 p.fs.length)), (22, .v (.int .i64 k)), (76, .lst 2 f.hp (f.params.map ParamG.av)), (77, .v (.int .i64 f.params.length)), (78, .v (.int .i64 i))])
                      (fun _ => hp4) (fun i => i ≤ f.params.length ∧ (f.params.drop i).all (paramX p.ds k) = f.params.all (paramX p.ds k)) (fun i => f.params.length - i) 0 ⟨Nat.zero_le _, rfl⟩ (le_mkSl rfl (Hp.le_refl _) (by simp [go_sem])) ?_
                    rintro i ⟨hi, hpa⟩
                    refine awp_sound (mu := []) _ _ _ ?_
                    simp only [go_sem, Nat.reduceEqDiff, Nat.reduceAdd, Nat.reduceSub, Nat.reduceLT, Nat.reduceBEq, Nat.reduceLeDiff, ↓reduceIte, Int.reduceToNat, Int.reduceLE, Int.reduceLT, Int.reduceEq, reduceCtorEq]
                    refine brK_mk (fun d1 => ?_) (fun d1 => ?_) <;> simp only [go_sem, Nat.reduceEqDiff, Nat.reduceAdd, Nat.reduceSub, Nat.reduceLT, Nat.reduceBEq, Nat.reduceLeDiff, ↓reduceIte, Int.reduceToNat, Int.reduceLE, Int.reduceLT, Int.reduceEq, reduceCtorEq, d1]
                    · have hi' : i < f.params.length := by simpa using d1
                      obtain ⟨x, hx⟩ := someAt f.params i hi'
                      have hwi : IntKind.i64.wrap ((i : Int) + 1) = ((i + 1 : Nat) : Int) := IntWalk.i64_in _ (by omega)
                      rw [dropK hx, List.all_cons] at hpa
                      have pbad : paramX p.ds k x = false → headsF p = false := fun h => bad (by rw [headR, ← hpa, h, Bool.false_and, Bool.false_and, Bool.and_false, Bool.and_false, Bool.and_false, Bool.and_false, Bool.and_false])
                      simp only [go_sem, Nat.reduceEqDiff, Nat.reduceAdd, Nat.reduceSub, Nat.reduceLT, Nat.reduceBEq, Nat.reduceLeDiff, ↓reduceIte, Int.reduceToNat, Int.reduceLE, Int.reduceLT, Int.reduceEq, reduceCtorEq, mapAt ParamG.av _ _ _ hx, ParamG.av, ParamG.cs]
                      intro v2 hv2
                      have hds2 := fun T cs => Hp.del_set _ _ T cs hv2.1
                      refine brK_mk (fun d2 => ?_) (fun d2 => ?_) <;> simp only [go_sem, Nat.reduceEqDiff, Nat.reduceAdd, Nat.reduceSub, Nat.reduceLT, Nat.reduceBEq, Nat.reduceLeDiff, ↓reduceIte, Int.reduceToNat, Int.reduceLE, Int.reduceLT, Int.reduceEq, reduceCtorEq, d2, hds2, List.length_map]
                      · exact ret_same ⟨by rw [pbad (by have := of_decide_eq_true d2; rw [paramX, show typB p.ds x.ty = false from by simp [typB]; omega, Bool.false_and])], rfl⟩
                      · refine brK_mk (fun d3 => ?_) (fun d3 => ?_) <;> simp only [go_sem, Nat.reduceEqDiff, Nat.reduceAdd, Nat.reduceSub, Nat.reduceLT, Nat.reduceBEq, Nat.reduceLeDiff, ↓reduceIte, Int.reduceToNat, Int.reduceLE, Int.reduceLT, Int.reduceEq, reduceCtorEq, d3, hds2]
                        · exact ret_same ⟨by rw [pbad (by have := of_decide_eq_true d3; rw [paramX, show typB p.ds x.ty = false from by simp [typB]; omega, Bool.false_and])], rfl⟩
                        · have hxt : typB p.ds x.ty = true := by have h1 := of_decide_eq_false d2; have h2 := of_decide_eq_false d3; simp [typB]; omega
                          have pok : (decide ((k : Int) = 0) && !decide (x.ty = 0)) = false → paramX p.ds k x = true := fun h => by rw [paramX, hxt, h]; rfl
                          refine brK_mk (fun d4 => ?_) (fun d4 => ?_) <;> simp only [go_sem, Nat.reduceEqDiff, Nat.reduceAdd, Nat.reduceSub, Nat.reduceLT, Nat.reduceBEq, Nat.reduceLeDiff, ↓reduceIte, Int.reduceToNat, Int.reduceLE, Int.reduceLT, Int.reduceEq, reduceCtorEq, d4, hds2]
                          · refine brK_mk (fun d5 => ?_) (fun d5 => ?_) <;> simp only [go_sem, Nat.reduceEqDiff, Nat.reduceAdd, Nat.reduceSub, Nat.reduceLT, Nat.reduceBEq, Nat.reduceLeDiff, ↓reduceIte, Int.reduceToNat, Int.reduceLE, Int.reduceLT, Int.reduceEq, reduceCtorEq, d5, hds2, hwi]
                            · rw [pok (by rw [d4, d5]; rfl), Bool.true_and] at hpa
                              exact ⟨i + 1, by omega, ⟨by omega, hpa⟩, le_mkSl rfl (by simp only [go_sem, Nat.reduceEqDiff, Nat.reduceAdd, Nat.reduceSub, Nat.reduceLT, Nat.reduceBEq, Nat.reduceLeDiff, ↓reduceIte, Int.reduceToNat, Int.reduceLE, Int.reduceLT, Int.reduceEq, reduceCtorEq, hds2]; exact Hp.le_refl _) (by simp [go_sem, hwi])⟩
                            · exact ret_same ⟨by rw [pbad (by rw [paramX, d4, d5]; simp)], rfl⟩
                          · simp only [go_sem, Nat.reduceEqDiff, Nat.reduceAdd, Nat.reduceSub, Nat.reduceLT, Nat.reduceBEq, Nat.reduceLeDiff, ↓reduceIte, Int.reduceToNat, Int.reduceLE, Int.reduceLT, Int.reduceEq, reduceCtorEq, hwi]
                            rw [pok (by rw [d4]; rfl), Bool.true_and] at hpa
                            exact ⟨i + 1, by omega, ⟨by omega, hpa⟩, le_mkSl rfl (by simp only [go_sem, Nat.reduceEqDiff, Nat.reduceAdd, Nat.reduceSub, Nat.reduceLT, Nat.reduceBEq, Nat.reduceLeDiff, ↓reduceIte, Int.reduceToNat, Int.reduceLE, Int.reduceLT, Int.reduceEq, reduceCtorEq, hds2]; exact Hp.le_refl _) (by simp [go_sem, hwi])⟩
                    · have e : i = f.params.length := by simp at d1; omega
                      rw [e, List.drop_of_length_le (Nat.le_refl _)] at hpa
                      have hpa : f.params.all (paramX p.ds k) = true := hpa.symm
                      have hh : (decide ((k : Int) = 0) && !decide (f.res = 0)) = false → headR p.ds k ((p.fs.take k).map FunG.name) f = true := fun h => by rw [headR, b4, hres, b7, b8, hsn, hpa, h]; rfl
                      have nxt : (decide ((k : Int) = 0) && !decide (f.res = 0)) = false → headsR p.ds (k + 1) ((p.fs.take (k + 1)).map FunG.name) (p.fs.drop (k + 1)) = headsR p.ds 0 [] p.fs := fun h => by rw [htk, ← hd, hh h, Bool.true_and]
                      refine brK_mk (fun d6 => ?_) (fun d6 => ?_) <;> simp only [go_sem, Nat.reduceEqDiff, Nat.reduceAdd, Nat.reduceSub, Nat.reduceLT, Nat.reduceBEq, Nat.reduceLeDiff, ↓reduceIte, Int.reduceToNat, Int.reduceLE, Int.reduceLT, Int.reduceEq, reduceCtorEq, d6]
                      · refine brK_mk (fun d7 => ?_) (fun d7 => ?_) <;> simp only [go_sem, Nat.reduceEqDiff, Nat.reduceAdd, Nat.reduceSub, Nat.reduceLT, Nat.reduceBEq, Nat.reduceLeDiff, ↓reduceIte, Int.reduceToNat, Int.reduceLE, Int.reduceLT, Int.reduceEq, reduceCtorEq, d7, hwu]
                        · exact ⟨k + 1, by omega, ⟨by omega, nxt (by rw [d6, d7]; rfl)⟩, le_mkSl rfl (Hp.le_refl _) (by simp [go_sem, hwu])⟩
                        · exact ret_same ⟨by rw [bad (by rw [headR, d6, d7]; simp)], rfl⟩
                      · simp only [go_sem, Nat.reduceEqDiff, Nat.reduceAdd, Nat.reduceSub, Nat.reduceLT, Nat.reduceBEq, Nat.reduceLeDiff, ↓reduceIte, Int.reduceToNat, Int.reduceLE, Int.reduceLT, Int.reduceEq, reduceCtorEq, hwu]
                        exact ⟨k + 1, by omega, ⟨by omega, nxt (by rw [d6]; rfl)⟩, le_mkSl rfl (Hp.le_refl _) (by simp [go_sem, hwu])⟩
                · exact ret_same ⟨by rw [bad (by simp only [headR, b8, Bool.and_true, Bool.true_and, Bool.and_false, Bool.false_and, Bool.or_true, Bool.true_or, Bool.or_false, Bool.false_or, Bool.not_true, Bool.not_false])], rfl⟩
        · exact ret_same ⟨by rw [bad (by rw [headR, b4, Bool.false_and])], rfl⟩
      · have e : k = p.fs.length := by simp at b3; omega
        rw [e, List.drop_of_length_le (Nat.le_refl _), headsR] at hd
        exact ret_same ⟨by rw [hfw, ← hd], rfl⟩
end Go.Proofs.YtkoachnlimebaaaGreatDoor
/- The reference of the layer 'term': Is. -/
set_option linter.unusedSimpArgs false
set_option linter.unusedVariables false
set_option maxRecDepth 20000
set_option maxHeartbeats 4000000
namespace Go.Proofs.YtkoachnlimebaaaGreatDoor
open Go.AL

def bodyOk (ds : List DeclG) (pf : List Nat) (f : FunG) : Bool := (decide (nodesT f.body ≤ 600) && decide (depthT f.body ≤ 24)) && validT ds pf (hasB (f.params.map ParamG.name)) (fun _ => false) f.body
def sumN : List FunG → Nat
  | [] => 0
  | f :: r => nodesT f.body + sumN r
theorem bodies_same (ds : List DeclG) (pf : List Nat) : ∀ (l : List FunG) (left : Int), 0 ≤ left → left ≤ 600 → bodiesB ds pf left l = (l.all (bodyOk ds pf) && decide ((sumN l : Int) ≤ left))
  | [], left, h0, _ => by simp [bodiesB, sumN, h0]
  | f :: r, left, h0, h1 => by
    rw [bodiesB, List.all_cons, sumN]
    by_cases hn : (nodesT f.body : Int) ≤ left
    · rw [bodies_same ds pf r (left - nodesT f.body) (by omega) (by omega), okB, bodyOk, decide_eq_true hn, decide_eq_true (show nodesT f.body ≤ 600 by omega), Bool.true_and, Bool.true_and]
      rw [show decide (1 + (depthT f.body : Int) ≤ 25) = decide (depthT f.body ≤ 24) from decide_eq_decide.2 (by omega),
        show decide ((sumN r : Int) ≤ left - nodesT f.body) = decide (((nodesT f.body + sumN r : Nat) : Int) ≤ left) from decide_eq_decide.2 (by omega), Bool.and_assoc]
      simp only [Bool.and_assoc]
    · rw [okB, decide_eq_false hn, Bool.false_and, Bool.false_and, decide_eq_false (show ¬ ((nodesT f.body + sumN r : Nat) : Int) ≤ left by omega), Bool.and_false]
theorem sum_take {l : List FunG} {k : Nat} {f : FunG} (h : l[k]? = some f) : sumN (l.take (k + 1)) = sumN (l.take k) + nodesT f.body := by
  have snoc : ∀ (l : List FunG) (f : FunG), sumN (l ++ [f]) = sumN l + nodesT f.body := by
    intro l f
    induction l with
    | nil => simp [sumN]
    | cons a r ih => rw [List.cons_append, sumN, sumN, ih]; omega
  rw [List.take_add_one, h, ← snoc]; rfl
theorem is_same (p : ProgG) : progB p = ((validB p.ds && sourceB p.ds) && (headsF p && (p.fs.all (bodyOk p.ds p.pf) && decide ((sumN p.fs : Int) ≤ 600)))) := by
  rw [progB, headsF, headsR_same, bodies_same _ _ _ _ (by decide) (by decide), distinctB]
  simp only [Bool.and_assoc]
theorem ris2_calls (p : ProgG) (hpf : PFit p) (hp : Hp) : ACalls Tryz.prog 41 [p.av] hp (fun r hp' => r = .v (.bool (progB p)) ∧ hp' = hp) := by
  refine acalls_of Tryz.func41 rfl (by decide +kernel) (awp_sound (mu := []) _ _ _ ?_)
  simp only [go_sem, Nat.reduceEqDiff, Nat.reduceAdd, Nat.reduceSub, Nat.reduceLT, Nat.reduceBEq, Nat.reduceLeDiff, ↓reduceIte, Int.reduceToNat, Int.reduceLE, Int.reduceLT, Int.reduceEq, reduceCtorEq, ProgG.av, ProgG.cs, declsAV, funsAV]
  intro q1
  have c := ris_calls p.hd p.ds hp
  simp only [declsAV] at c
  refine callX_by c ?_
  clear c
  rintro r hp1 ⟨rfl, rfl⟩
  simp only [go_sem, Nat.reduceEqDiff, Nat.reduceAdd, Nat.reduceSub, Nat.reduceLT, Nat.reduceBEq, Nat.reduceLeDiff, ↓reduceIte, Int.reduceToNat, Int.reduceLE, Int.reduceLT, Int.reduceEq, reduceCtorEq, ← valid_same]
  refine brK_mk (fun b1 => ?_) (fun b1 => ?_) <;> simp only [go_sem, Nat.reduceEqDiff, Nat.reduceAdd, Nat.reduceSub, Nat.reduceLT, Nat.reduceBEq, Nat.reduceLeDiff, ↓reduceIte, Int.reduceToNat, Int.reduceLE, Int.reduceLT, Int.reduceEq, reduceCtorEq, b1]
  · have c := rsource_calls p.hd p.ds hp1
    simp only [declsAV] at c
    refine callX_by c ?_
    clear c
    rintro r hp2 ⟨rfl, rfl⟩
    simp only [go_sem, Nat.reduceEqDiff, Nat.reduceAdd, Nat.reduceSub, Nat.reduceLT, Nat.reduceBEq, Nat.reduceLeDiff, ↓reduceIte, Int.reduceToNat, Int.reduceLE, Int.reduceLT, Int.reduceEq, reduceCtorEq, ← source_same]
    refine brK_mk (fun b2 => ?_) (fun b2 => ?_) <;> simp only [go_sem, Nat.reduceEqDiff, Nat.reduceAdd, Nat.reduceSub, Nat.reduceLT, Nat.reduceBEq, Nat.reduceLeDiff, ↓reduceIte, Int.reduceToNat, Int.reduceLE, Int.reduceLT, Int.reduceEq, reduceCtorEq, b2]
    · have c := heads_calls p hpf hp2
      simp only [ProgG.av, ProgG.cs, declsAV, funsAV] at c
      refine callX_by c ?_
      clear c
      rintro r hp3 ⟨rfl, rfl⟩
      simp only [go_sem, Nat.reduceEqDiff, Nat.reduceAdd, Nat.reduceSub, Nat.reduceLT, Nat.reduceBEq, Nat.reduceLeDiff, ↓reduceIte, Int.reduceToNat, Int.reduceLE, Int.reduceLT, Int.reduceEq, reduceCtorEq]
      refine brK_mk (fun b3 => ?_) (fun b3 => ?_) <;> simp only [go_sem, Nat.reduceEqDiff, Nat.reduceAdd, Nat.reduceSub, Nat.reduceLT, Nat.reduceBEq, Nat.reduceLeDiff, ↓reduceIte, Int.reduceToNat, Int.reduceLE, Int.reduceLT, Int.reduceEq, reduceCtorEq, b3]
      · have hpb : progB p = (p.fs.all (bodyOk p.ds p.pf) && decide ((sumN p.fs : Int) ≤ 600)) := by rw [is_same, b1, b2, b3]; rfl
        have hfl : p.fs.length ≤ 12 := by
          have h := b3
          rw [headsF, Bool.and_eq_true, Bool.and_eq_true, Bool.not_eq_true', Bool.not_eq_true', decide_eq_false_iff_not, decide_eq_false_iff_not] at h; omega
        have ok : PreR p := ⟨small_valid b1, by rw [validB, Bool.and_eq_true, Bool.not_eq_true', decide_eq_false_iff_not] at b1; omega, b2⟩
        refine aw_loopX 50 (fun k : Nat => [(1, .ref q1 [.lst 3 p.hd (p.ds.map DeclG.av), .lst 9 p.hf (p.fs.map FunG.av)]), (3, .v (.int .i64 (sumN (p.fs.take k)))), (22, .lst 9 p.hf (p.fs.map FunG.av)), (23, .v (.int .i64 p.fs.length)), (24, .v (.int .i64 k))])
          (fun _ => hp3) (fun k => k ≤ p.fs.length ∧ (sumN (p.fs.take k) ≤ 600 * k ∧ (p.fs.drop k).all (bodyOk p.ds p.pf) = p.fs.all (bodyOk p.ds p.pf))) (fun k => p.fs.length - k) 0 ⟨Nat.zero_le _, by simp [sumN], rfl⟩ (le_mkSl rfl (Hp.le_refl _) (by simp [go_sem, sumN])) ?_
        rintro k ⟨hk, hsn, hd⟩
        refine awp_sound (mu := []) _ _ _ ?_
        simp only [go_sem, Nat.reduceEqDiff, Nat.reduceAdd, Nat.reduceSub, Nat.reduceLT, Nat.reduceBEq, Nat.reduceLeDiff, ↓reduceIte, Int.reduceToNat, Int.reduceLE, Int.reduceLT, Int.reduceEq, reduceCtorEq]
        refine brK_mk (fun b4 => ?_) (fun b4 => ?_) <;> simp only [go_sem, Nat.reduceEqDiff, Nat.reduceAdd, Nat.reduceSub, Nat.reduceLT, Nat.reduceBEq, Nat.reduceLeDiff, ↓reduceIte, Int.reduceToNat, Int.reduceLE, Int.reduceLT, Int.reduceEq, reduceCtorEq, b4]
        · have hk' : k < p.fs.length := by simpa using b4
          obtain ⟨f, hf⟩ := someAt p.fs k hk'
          have hwu : IntKind.i64.wrap ((k : Int) + 1) = ((k + 1 : Nat) : Int) := IntWalk.i64_in _ (by omega)
          have hpfb := hpf f (List.mem_of_getElem? hf)
          rw [dropK hf, List.all_cons] at hd
          simp only [go_sem, Nat.reduceEqDiff, Nat.reduceAdd, Nat.reduceSub, Nat.reduceLT, Nat.reduceBEq, Nat.reduceLeDiff, ↓reduceIte, Int.reduceToNat, Int.reduceLE, Int.reduceLT, Int.reduceEq, reduceCtorEq, mapAt FunG.av _ _ _ hf, FunG.av, FunG.cs, paramsAV]
          intro v hv
          have hds := fun T cs => Hp.del_set _ _ T cs hv.1
          simp only [go_sem, Nat.reduceEqDiff, Nat.reduceAdd, Nat.reduceSub, Nat.reduceLT, Nat.reduceBEq, Nat.reduceLeDiff, ↓reduceIte, Int.reduceToNat, Int.reduceLE, Int.reduceLT, Int.reduceEq, reduceCtorEq, hds]
          refine draw_by (mu := []) (fun _ => True) (.take 0 (.take 1 (.br 2 (.take 3 (.take 4 (.take 5 (.take 6 (.take 7 (.take 9 (.take 10 (.br 8 (.br 11 (.take 12 (.take 13 (.done))) (.stop)) (.stop))))))))) (.stop)))) (by decide +kernel) trivial (by decide +kernel) (by decide +kernel) ?_
          simp only [go_sem, Nat.reduceEqDiff, Nat.reduceAdd, Nat.reduceSub, Nat.reduceLT, Nat.reduceBEq, Nat.reduceLeDiff, ↓reduceIte, Int.reduceToNat, Int.reduceLE, Int.reduceLT, Int.reduceEq, reduceCtorEq, hds]
          have c := small_calls f.body hp3
          simp only [TermG.av, TermG.cs_eq] at c
          refine callX_by c ?_
          clear c
          rintro r hp4 ⟨rfl, rfl⟩
          simp only [go_sem, Nat.reduceEqDiff, Nat.reduceAdd, Nat.reduceSub, Nat.reduceLT, Nat.reduceBEq, Nat.reduceLeDiff, ↓reduceIte, Int.reduceToNat, Int.reduceLE, Int.reduceLT, Int.reduceEq, reduceCtorEq]
          refine brK_mk (fun b5 => ?_) (fun b5 => ?_) <;> simp only [go_sem, Nat.reduceEqDiff, Nat.reduceAdd, Nat.reduceSub, Nat.reduceLT, Nat.reduceBEq, Nat.reduceLeDiff, ↓reduceIte, Int.reduceToNat, Int.reduceLE, Int.reduceLT, Int.reduceEq, reduceCtorEq, b5]
          · have hn6 : nodesT f.body ≤ 600 ∧ depthT f.body ≤ 24 := by simpa using b5
            have c := rparams_calls f.hp f.params hpfb hp4
            simp only [paramsAV] at c
            refine callX_by c ?_
            clear c
            rintro r hp5 ⟨h36, rfl, rfl⟩
            simp only [go_sem, Nat.reduceEqDiff, Nat.reduceAdd, Nat.reduceSub, Nat.reduceLT, Nat.reduceBEq, Nat.reduceLeDiff, ↓reduceIte, Int.reduceToNat, Int.reduceLE, Int.reduceLT, Int.reduceEq, reduceCtorEq]
            have c : ACalls Tryz.prog 89 [p.av, strsAV h36 (f.params.map ParamG.name), .v (.slice none 0 0), f.body.av] hp5 (fun r hp' => r = .v (.bool (validT p.ds p.pf (hasB (f.params.map ParamG.name)) (fun _ => false) f.body)) ∧ hp' = hp5) := by
              have c := rvalid_calls ok (nodesT f.body) f.body (Nat.le_refl _) h36 (.slice none 0 0) (f.params.map ParamG.name) [] (by rw [List.length_map]; omega) (by simp only [List.length_nil]; omega) hp5
              rw [hasB_nil] at c
              exact acalls_cast (args := [p.av, strsAV h36 (f.params.map ParamG.name), strsAV (.slice none 0 0) [], f.body.av]) rfl (fun m h => ⟨h.1, h.2.1, (Cast.nil 1).2 m trivial, h.2.2.2⟩) c
            simp only [TermG.av, TermG.cs_eq, ProgG.av, ProgG.cs, declsAV, funsAV] at c
            refine callX_by c ?_
            clear c
            rintro r hp6 ⟨rfl, rfl⟩
            simp only [go_sem, Nat.reduceEqDiff, Nat.reduceAdd, Nat.reduceSub, Nat.reduceLT, Nat.reduceBEq, Nat.reduceLeDiff, ↓reduceIte, Int.reduceToNat, Int.reduceLE, Int.reduceLT, Int.reduceEq, reduceCtorEq]
            refine brK_mk (fun b6 => ?_) (fun b6 => ?_) <;> simp only [go_sem, Nat.reduceEqDiff, Nat.reduceAdd, Nat.reduceSub, Nat.reduceLT, Nat.reduceBEq, Nat.reduceLeDiff, ↓reduceIte, Int.reduceToNat, Int.reduceLE, Int.reduceLT, Int.reduceEq, reduceCtorEq, b6]
            · have c := nodesN_calls 600 f.body hn6.1 (by omega) hp6
              simp only [TermG.av, TermG.cs_eq] at c
              refine callX_by c ?_
              clear c
              rintro r hp7 ⟨rfl, rfl⟩
              have hst := sum_take hf
              have hws : IntKind.i64.wrap ((sumN (p.fs.take k) : Int) + (nodesT f.body : Int)) = (sumN (p.fs.take (k + 1)) : Int) := by
                rw [hst, show (sumN (p.fs.take k) : Int) + (nodesT f.body : Int) = ((sumN (p.fs.take k) + nodesT f.body : Nat) : Int) by omega]; exact IntWalk.i64_in _ (by omega)
              rw [bodyOk, b5, b6, Bool.true_and, Bool.true_and] at hd
              simp only [go_sem, Nat.reduceEqDiff, Nat.reduceAdd, Nat.reduceSub, Nat.reduceLT, Nat.reduceBEq, Nat.reduceLeDiff, ↓reduceIte, Int.reduceToNat, Int.reduceLE, Int.reduceLT, Int.reduceEq, reduceCtorEq, hws, hwu]
              exact ⟨k + 1, by omega, ⟨by omega, by omega, hd⟩, le_mkSl rfl (Hp.le_refl _) (by simp [go_sem, hwu, hws])⟩
            · exact ret_same ⟨by rw [hpb, ← hd, bodyOk, b5, b6]; rfl, rfl⟩
          · exact ret_same ⟨by rw [hpb, ← hd, bodyOk, b5]; rfl, rfl⟩
        · have e : k = p.fs.length := by simp at b4; omega
          rw [e, List.drop_of_length_le (Nat.le_refl _)] at hd
          subst e
          rw [List.take_length] at *
          exact ret_same ⟨by rw [hpb, ← hd]; rfl, rfl⟩
      · exact ret_same ⟨by rw [is_same, b3]; simp, rfl⟩
    · exact ret_same ⟨by rw [is_same, b2]; simp, rfl⟩
  · exact ret_same ⟨by rw [is_same, b1]; rfl, rfl⟩
end Go.Proofs.YtkoachnlimebaaaGreatDoor
/- The reference of the layer 'check': find, with, bound. -/
set_option linter.unusedSimpArgs false
set_option linter.unusedVariables false
set_option maxRecDepth 20000
set_option maxHeartbeats 4000000
namespace Go.Proofs.YtkoachnlimebaaaGreatDoor
open Go.AL

end Go.Proofs.YtkoachnlimebaaaGreatDoor
