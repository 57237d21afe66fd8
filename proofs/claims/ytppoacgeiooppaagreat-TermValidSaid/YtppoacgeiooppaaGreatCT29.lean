/- The reference of the layer 'term': Is. -/
import Derived.Test.YtppoacgeiooppaaGreatCT28
set_option linter.unusedSimpArgs false
set_option linter.unusedVariables false
set_option maxRecDepth 20000
set_option maxHeartbeats 4000000
namespace Go.Proofs.YtppoacgeiooppaaGreat
open Go.AL

def bodyOk (ds : List DeclG) (pf : List Nat) (f : FunG) : Bool := (decide (nodesT f.body ≤ 600) && decide (depthT f.body ≤ 24)) && validT ds pf (hasB (f.params.map ParamG.name)) (fun _ => false) f.body
def sumN : List FunG → Nat
  | [] => 0
  | f :: r => nodesT f.body + sumN r
theorem bodies_same (ds : List DeclG) (pf : List Nat) : ∀ (l : List FunG) (left : Int), 0 ≤ left → left ≤ 600 → bodiesB ds pf left l = (l.all (bodyOk ds pf) && decide ((sumN l : Int) ≤ left))
  | [], left, h0, _ => by simp [bodiesB, sumN, h0]
  | f :: r, left, h0, h1 => by
    rw [bodiesB, List.all_cons, sumN]
    by_cases hn : (nodesT f.body : Int) ≤ left
    · rw [bodies_same ds pf r (left - nodesT f.body) (by omega) (by omega), okB, bodyOk, decide_eq_true hn, decide_eq_true (show nodesT f.body ≤ 600 by omega), Bool.true_and, Bool.true_and]
      rw [show decide (1 + (depthT f.body : Int) ≤ 25) = decide (depthT f.body ≤ 24) from decide_eq_decide.2 (by omega),
        show decide ((sumN r : Int) ≤ left - nodesT f.body) = decide (((nodesT f.body + sumN r : Nat) : Int) ≤ left) from decide_eq_decide.2 (by omega), Bool.and_assoc]
      simp only [Bool.and_assoc]
    · rw [okB, decide_eq_false hn, Bool.false_and, Bool.false_and, decide_eq_false (show ¬ ((nodesT f.body + sumN r : Nat) : Int) ≤ left by omega), Bool.and_false]
theorem sum_take {l : List FunG} {k : Nat} {f : FunG} (h : l[k]? = some f) : sumN (l.take (k + 1)) = sumN (l.take k) + nodesT f.body := by
  have snoc : ∀ (l : List FunG) (f : FunG), sumN (l ++ [f]) = sumN l + nodesT f.body := by
    intro l f
    induction l with
    | nil => simp [sumN]
    | cons a r ih => rw [List.cons_append, sumN, sumN, ih]; omega
  rw [List.take_add_one, h, ← snoc]; rfl
theorem is_same (p : ProgG) : progB p = ((validB p.ds && sourceB p.ds) && (headsF p && (p.fs.all (bodyOk p.ds p.pf) && decide ((sumN p.fs : Int) ≤ 600)))) := by
  rw [progB, headsF, headsR_same, bodies_same _ _ _ _ (by decide) (by decide), distinctB]
  simp only [Bool.and_assoc]
theorem ris2_calls (p : ProgG) (hpf : PFit p) (hp : Hp) : ACalls Tryz.prog 12 [p.av] hp (fun r hp' => r = .v (.bool (progB p)) ∧ hp' = hp) := by
  refine acalls_of Tryz.func12 rfl (by decide +kernel) (awp_sound (mu := []) _ _ _ ?_)
  simp only [go_sem, Nat.reduceEqDiff, Nat.reduceAdd, Nat.reduceSub, Nat.reduceLT, Nat.reduceMul, Nat.reduceBEq, Nat.reduceLeDiff, ↓reduceIte, Int.reduceToNat, Nat.reduceGT, Int.reduceLE, Int.reduceLT, Int.reduceGE, Int.reduceGT, Int.reduceEq, Int.reduceNe, reduceCtorEq, ProgG.av, ProgG.cs, declsAV, funsAV]
  intro q1
  have c := ris_calls p.hd p.ds hp
  simp only [declsAV] at c
  refine callX_by c ?_
  clear c
  rintro r hp1 ⟨rfl, rfl⟩
  simp only [go_sem, Nat.reduceEqDiff, Nat.reduceAdd, Nat.reduceSub, Nat.reduceLT, Nat.reduceMul, Nat.reduceBEq, Nat.reduceLeDiff, ↓reduceIte, Int.reduceToNat, Nat.reduceGT, Int.reduceLE, Int.reduceLT, Int.reduceGE, Int.reduceGT, Int.reduceEq, Int.reduceNe, reduceCtorEq, ← valid_same]
  refine brK_mk (fun b1 => ?_) (fun b1 => ?_) <;> simp only [go_sem, Nat.reduceEqDiff, Nat.reduceAdd, Nat.reduceSub, Nat.reduceLT, Nat.reduceMul, Nat.reduceBEq, Nat.reduceLeDiff, ↓reduceIte, Int.reduceToNat, Nat.reduceGT, Int.reduceLE, Int.reduceLT, Int.reduceGE, Int.reduceGT, Int.reduceEq, Int.reduceNe, reduceCtorEq, b1]
  · have c := rsource_calls p.hd p.ds hp1
    simp only [declsAV] at c
    refine callX_by c ?_
    clear c
    rintro r hp2 ⟨rfl, rfl⟩
    simp only [go_sem, Nat.reduceEqDiff, Nat.reduceAdd, Nat.reduceSub, Nat.reduceLT, Nat.reduceMul, Nat.reduceBEq, Nat.reduceLeDiff, ↓reduceIte, Int.reduceToNat, Nat.reduceGT, Int.reduceLE, Int.reduceLT, Int.reduceGE, Int.reduceGT, Int.reduceEq, Int.reduceNe, reduceCtorEq, ← source_same]
    refine brK_mk (fun b2 => ?_) (fun b2 => ?_) <;> simp only [go_sem, Nat.reduceEqDiff, Nat.reduceAdd, Nat.reduceSub, Nat.reduceLT, Nat.reduceMul, Nat.reduceBEq, Nat.reduceLeDiff, ↓reduceIte, Int.reduceToNat, Nat.reduceGT, Int.reduceLE, Int.reduceLT, Int.reduceGE, Int.reduceGT, Int.reduceEq, Int.reduceNe, reduceCtorEq, b2]
    · have c := heads_calls p hpf hp2
      simp only [ProgG.av, ProgG.cs, declsAV, funsAV] at c
      refine callX_by c ?_
      clear c
      rintro r hp3 ⟨rfl, rfl⟩
      simp only [go_sem, Nat.reduceEqDiff, Nat.reduceAdd, Nat.reduceSub, Nat.reduceLT, Nat.reduceMul, Nat.reduceBEq, Nat.reduceLeDiff, ↓reduceIte, Int.reduceToNat, Nat.reduceGT, Int.reduceLE, Int.reduceLT, Int.reduceGE, Int.reduceGT, Int.reduceEq, Int.reduceNe, reduceCtorEq]
      refine brK_mk (fun b3 => ?_) (fun b3 => ?_) <;> simp only [go_sem, Nat.reduceEqDiff, Nat.reduceAdd, Nat.reduceSub, Nat.reduceLT, Nat.reduceMul, Nat.reduceBEq, Nat.reduceLeDiff, ↓reduceIte, Int.reduceToNat, Nat.reduceGT, Int.reduceLE, Int.reduceLT, Int.reduceGE, Int.reduceGT, Int.reduceEq, Int.reduceNe, reduceCtorEq, b3]
      · have hpb : progB p = (p.fs.all (bodyOk p.ds p.pf) && decide ((sumN p.fs : Int) ≤ 600)) := by rw [is_same, b1, b2, b3]; rfl
        have hfl : p.fs.length ≤ 12 := by
          have h := b3
          rw [headsF, Bool.and_eq_true, Bool.and_eq_true, Bool.not_eq_true', Bool.not_eq_true', decide_eq_false_iff_not, decide_eq_false_iff_not] at h; omega
        have ok : PreR p := ⟨small_valid b1, by rw [validB, Bool.and_eq_true, Bool.not_eq_true', decide_eq_false_iff_not] at b1; omega, b2⟩
        refine aw_loopX 50 (fun k : Nat => [(1, .ref q1 [.lst 3 p.hd (p.ds.map DeclG.av), .lst 9 p.hf (p.fs.map FunG.av)]), (3, .v (.int .i64 (sumN (p.fs.take k)))), (22, .lst 9 p.hf (p.fs.map FunG.av)), (23, .v (.int .i64 p.fs.length)), (24, .v (.int .i64 k))])
          (fun _ => hp3) (fun k => k ≤ p.fs.length ∧ (sumN (p.fs.take k) ≤ 600 * k ∧ (p.fs.drop k).all (bodyOk p.ds p.pf) = p.fs.all (bodyOk p.ds p.pf))) (fun k => p.fs.length - k) 0 ⟨Nat.zero_le _, by simp [sumN], rfl⟩ (le_mkSl rfl (Hp.le_refl _) (by simp [go_sem, sumN])) ?_
        rintro k ⟨hk, hsn, hd⟩
        refine awp_sound (mu := []) _ _ _ ?_
        simp only [go_sem, Nat.reduceEqDiff, Nat.reduceAdd, Nat.reduceSub, Nat.reduceLT, Nat.reduceMul, Nat.reduceBEq, Nat.reduceLeDiff, ↓reduceIte, Int.reduceToNat, Nat.reduceGT, Int.reduceLE, Int.reduceLT, Int.reduceGE, Int.reduceGT, Int.reduceEq, Int.reduceNe, reduceCtorEq]
        refine brK_mk (fun b4 => ?_) (fun b4 => ?_) <;> simp only [go_sem, Nat.reduceEqDiff, Nat.reduceAdd, Nat.reduceSub, Nat.reduceLT, Nat.reduceMul, Nat.reduceBEq, Nat.reduceLeDiff, ↓reduceIte, Int.reduceToNat, Nat.reduceGT, Int.reduceLE, Int.reduceLT, Int.reduceGE, Int.reduceGT, Int.reduceEq, Int.reduceNe, reduceCtorEq, b4]
        · have hk' : k < p.fs.length := by simpa using b4
          obtain ⟨f, hf⟩ := someAt p.fs k hk'
          have hwu : IntKind.i64.wrap ((k : Int) + 1) = ((k + 1 : Nat) : Int) := IntWalk.i64_in _ (by omega)
          have hpfb := hpf f (List.mem_of_getElem? hf)
          rw [dropK hf, List.all_cons] at hd
          simp only [go_sem, Nat.reduceEqDiff, Nat.reduceAdd, Nat.reduceSub, Nat.reduceLT, Nat.reduceMul, Nat.reduceBEq, Nat.reduceLeDiff, ↓reduceIte, Int.reduceToNat, Nat.reduceGT, Int.reduceLE, Int.reduceLT, Int.reduceGE, Int.reduceGT, Int.reduceEq, Int.reduceNe, reduceCtorEq, mapAt FunG.av _ _ _ hf, FunG.av, FunG.cs, paramsAV]
          intro v hv
          have hds := fun T cs => Hp.del_set _ _ T cs hv.1
          simp only [go_sem, Nat.reduceEqDiff, Nat.reduceAdd, Nat.reduceSub, Nat.reduceLT, Nat.reduceMul, Nat.reduceBEq, Nat.reduceLeDiff, ↓reduceIte, Int.reduceToNat, Nat.reduceGT, Int.reduceLE, Int.reduceLT, Int.reduceGE, Int.reduceGT, Int.reduceEq, Int.reduceNe, reduceCtorEq, hds]
          refine draw_by (mu := []) (fun _ => True) (.take 0 (.take 1 (.br 2 (.take 3 (.take 4 (.take 5 (.take 6 (.take 7 (.take 9 (.take 10 (.br 8 (.br 11 (.take 12 (.take 13 (.done))) (.stop)) (.stop))))))))) (.stop)))) (by decide +kernel) trivial (by decide +kernel) (by decide +kernel) ?_
          simp only [go_sem, Nat.reduceEqDiff, Nat.reduceAdd, Nat.reduceSub, Nat.reduceLT, Nat.reduceMul, Nat.reduceBEq, Nat.reduceLeDiff, ↓reduceIte, Int.reduceToNat, Nat.reduceGT, Int.reduceLE, Int.reduceLT, Int.reduceGE, Int.reduceGT, Int.reduceEq, Int.reduceNe, reduceCtorEq, hds]
          have c := small_calls f.body hp3
          simp only [TermG.av, TermG.cs_eq] at c
          refine callX_by c ?_
          clear c
          rintro r hp4 ⟨rfl, rfl⟩
          simp only [go_sem, Nat.reduceEqDiff, Nat.reduceAdd, Nat.reduceSub, Nat.reduceLT, Nat.reduceMul, Nat.reduceBEq, Nat.reduceLeDiff, ↓reduceIte, Int.reduceToNat, Nat.reduceGT, Int.reduceLE, Int.reduceLT, Int.reduceGE, Int.reduceGT, Int.reduceEq, Int.reduceNe, reduceCtorEq]
          refine brK_mk (fun b5 => ?_) (fun b5 => ?_) <;> simp only [go_sem, Nat.reduceEqDiff, Nat.reduceAdd, Nat.reduceSub, Nat.reduceLT, Nat.reduceMul, Nat.reduceBEq, Nat.reduceLeDiff, ↓reduceIte, Int.reduceToNat, Nat.reduceGT, Int.reduceLE, Int.reduceLT, Int.reduceGE, Int.reduceGT, Int.reduceEq, Int.reduceNe, reduceCtorEq, b5]
          · have hn6 : nodesT f.body ≤ 600 ∧ depthT f.body ≤ 24 := by simpa using b5
            have c := rparams_calls f.hp f.params hpfb hp4
            simp only [paramsAV] at c
            refine callX_by c ?_
            clear c
            rintro r hp5 ⟨h36, rfl, rfl⟩
            simp only [go_sem, Nat.reduceEqDiff, Nat.reduceAdd, Nat.reduceSub, Nat.reduceLT, Nat.reduceMul, Nat.reduceBEq, Nat.reduceLeDiff, ↓reduceIte, Int.reduceToNat, Nat.reduceGT, Int.reduceLE, Int.reduceLT, Int.reduceGE, Int.reduceGT, Int.reduceEq, Int.reduceNe, reduceCtorEq]
            have c : ACalls Tryz.prog 19 [p.av, strsAV h36 (f.params.map ParamG.name), .v (.slice none 0 0), f.body.av] hp5 (fun r hp' => r = .v (.bool (validT p.ds p.pf (hasB (f.params.map ParamG.name)) (fun _ => false) f.body)) ∧ hp' = hp5) := by
              have c := rvalid_calls ok (nodesT f.body) f.body (Nat.le_refl _) h36 (.slice none 0 0) (f.params.map ParamG.name) [] (by rw [List.length_map]; omega) (by simp only [List.length_nil]; omega) hp5
              rw [hasB_nil] at c
              exact acalls_cast (args := [p.av, strsAV h36 (f.params.map ParamG.name), strsAV (.slice none 0 0) [], f.body.av]) rfl (fun m h => ⟨h.1, h.2.1, (Cast.nil 1).2 m trivial, h.2.2.2⟩) c
            simp only [TermG.av, TermG.cs_eq, ProgG.av, ProgG.cs, declsAV, funsAV] at c
            refine callX_by c ?_
            clear c
            rintro r hp6 ⟨rfl, rfl⟩
            simp only [go_sem, Nat.reduceEqDiff, Nat.reduceAdd, Nat.reduceSub, Nat.reduceLT, Nat.reduceMul, Nat.reduceBEq, Nat.reduceLeDiff, ↓reduceIte, Int.reduceToNat, Nat.reduceGT, Int.reduceLE, Int.reduceLT, Int.reduceGE, Int.reduceGT, Int.reduceEq, Int.reduceNe, reduceCtorEq]
            refine brK_mk (fun b6 => ?_) (fun b6 => ?_) <;> simp only [go_sem, Nat.reduceEqDiff, Nat.reduceAdd, Nat.reduceSub, Nat.reduceLT, Nat.reduceMul, Nat.reduceBEq, Nat.reduceLeDiff, ↓reduceIte, Int.reduceToNat, Nat.reduceGT, Int.reduceLE, Int.reduceLT, Int.reduceGE, Int.reduceGT, Int.reduceEq, Int.reduceNe, reduceCtorEq, b6]
            · have c := nodesN_calls 600 f.body hn6.1 (by omega) hp6
              simp only [TermG.av, TermG.cs_eq] at c
              refine callX_by c ?_
              clear c
              rintro r hp7 ⟨rfl, rfl⟩
              have hst := sum_take hf
              have hws : IntKind.i64.wrap ((sumN (p.fs.take k) : Int) + (nodesT f.body : Int)) = (sumN (p.fs.take (k + 1)) : Int) := by
                rw [hst, show (sumN (p.fs.take k) : Int) + (nodesT f.body : Int) = ((sumN (p.fs.take k) + nodesT f.body : Nat) : Int) by omega]; exact IntWalk.i64_in _ (by omega)
              rw [bodyOk, b5, b6, Bool.true_and, Bool.true_and] at hd
              simp only [go_sem, Nat.reduceEqDiff, Nat.reduceAdd, Nat.reduceSub, Nat.reduceLT, Nat.reduceMul, Nat.reduceBEq, Nat.reduceLeDiff, ↓reduceIte, Int.reduceToNat, Nat.reduceGT, Int.reduceLE, Int.reduceLT, Int.reduceGE, Int.reduceGT, Int.reduceEq, Int.reduceNe, reduceCtorEq, hws, hwu]
              exact ⟨k + 1, by omega, ⟨by omega, by omega, hd⟩, le_mkSl rfl (Hp.le_refl _) (by simp [go_sem, hwu, hws])⟩
            · exact ret_same ⟨by rw [hpb, ← hd, bodyOk, b5, b6]; rfl, rfl⟩
          · exact ret_same ⟨by rw [hpb, ← hd, bodyOk, b5]; rfl, rfl⟩
        · have e : k = p.fs.length := by simp at b4; omega
          rw [e, List.drop_of_length_le (Nat.le_refl _)] at hd
          subst e
          rw [List.take_length] at *
          exact ret_same ⟨by rw [hpb, ← hd]; rfl, rfl⟩
      · exact ret_same ⟨by rw [is_same, b3]; simp, rfl⟩
    · exact ret_same ⟨by rw [is_same, b2]; simp, rfl⟩
  · exact ret_same ⟨by rw [is_same, b1]; rfl, rfl⟩
end Go.Proofs.YtppoacgeiooppaaGreat
