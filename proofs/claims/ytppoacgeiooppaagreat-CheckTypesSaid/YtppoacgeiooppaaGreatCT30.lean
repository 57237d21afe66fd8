/- The reference of the layer 'term': Is. -/
import Derived.Test.YtppoacgeiooppaaGreatCT28
set_option linter.unusedSimpArgs false
set_option linter.unusedVariables false
set_option maxRecDepth 20000
set_option maxHeartbeats 4000000
namespace Go.Proofs.YtppoacgeiooppaaGreat
open Go.AL

def bodyOk (ds : List DeclG) (pf : List Nat) (f : FunG) : Bool := (decide (nodesT f.body ≤ 600) && decide (depthT f.body ≤ 24)) && validT ds pf (hasB (f.params.map ParamG.name)) (fun _ => false) f.body
def sumN : List FunG → Nat
  | [] => 0
  | f :: r => nodesT f.body + sumN r
theorem bodies_same (ds : List DeclG) (pf : List Nat) : ∀ (l : List FunG) (left : Int), 0 ≤ left → left ≤ 600 → bodiesB ds pf left l = (l.all (bodyOk ds pf) && decide ((sumN l : Int) ≤ left))
  | [], left, h0, _ => by simp [bodiesB, sumN, h0]
  | f :: r, left, h0, h1 => by
    rw [bodiesB, List.all_cons, sumN]
    by_cases hn : (nodesT f.body : Int) ≤ left
    · rw [bodies_same ds pf r (left - nodesT f.body) (by omega) (by omega), okB, bodyOk, decide_eq_true hn, decide_eq_true (show nodesT f.body ≤ 600 by omega), Bool.true_and, Bool.true_and]
      rw [show decide (1 + (depthT f.body : Int) ≤ 25) = decide (depthT f.body ≤ 24) from decide_eq_decide.2 (by omega),
        show decide ((sumN r : Int) ≤ left - nodesT f.body) = decide (((nodesT f.body + sumN r : Nat) : Int) ≤ left) from decide_eq_decide.2 (by omega), Bool.and_assoc]
      simp only [Bool.and_assoc]
    · rw [okB, decide_eq_false hn, Bool.false_and, Bool.false_and, decide_eq_false (show ¬ ((nodesT f.body + sumN r : Nat) : Int) ≤ left by omega), Bool.and_false]
theorem sum_take {l : List FunG} {k : Nat} {f : FunG} (h : l[k]? = some f) : sumN (l.take (k + 1)) = sumN (l.take k) + nodesT f.body := by
  have snoc : ∀ (l : List FunG) (f : FunG), sumN (l ++ [f]) = sumN l + nodesT f.body := by
    intro l f
    induction l with
    | nil => simp [sumN]
    | cons a r ih => rw [List.cons_append, sumN, sumN, ih]; omega
  rw [List.take_add_one, h, ← snoc]; rfl
theorem is_same (p : ProgG) : progB p = ((validB p.ds && sourceB p.ds) && (headsF p && (p.fs.all (bodyOk p.ds p.pf) && decide ((sumN p.fs : Int) ≤ 600)))) := by
  rw [progB, headsF, headsR_same, bodies_same _ _ _ _ (by decide) (by decide), distinctB]
  simp only [Bool.and_assoc]
theorem ris2_calls (p : ProgG) (hpf : PFit p) (hp : Hp) : ACalls Tryz.prog 12 [p.av] hp (fun r hp' => r = .v (.bool (progB p)) ∧ hp' = hp) := by
  refine acalls_of Tryz.func12 rfl (by decide +kernel) (awp_sound (mu := []) _ _ _ ?_)
  simp only [go_sem, Nat.reduceEqDiff, Nat.reduceAdd, Nat.reduceSub, Nat.reduceLT, Nat.reduceMul, Nat.reduceBEq, Nat.reduceLeDiff, ↓reduceIte, Int.reduceToNat, Nat.reduceGT, Int.reduceLE, Int.reduceLT, Int.reduceGE, Int.reduceGT, Int.reduceEq, Int.reduceNe, reduceCtorEq, ProgG.av, ProgG.cs, declsAV, funsAV]
  intro q1
  have c := ris_calls p.hd p.ds hp
  simp only [declsAV] at c
  refine callX_by c ?_
  clear c
  rintro r hp1 ⟨rfl, rfl⟩
  simp only [go_sem, Nat.reduceEqDiff, Nat.reduceAdd, Nat.reduceSub, Nat.reduceLT, Nat.reduceMul, Nat.reduceBEq, Nat.reduceLeDiff, ↓reduceIte, Int.reduceToNat, Nat.reduceGT, Int.reduceLE, Int.reduceLT, Int.reduceGE, Int.reduceGT, Int.reduceEq, Int.reduceNe, reduceCtorEq, ← valid_same]
  refine brK_mk (fun b1 => ?_) (fun b1 => ?_) <;> simp only [go_sem, Nat.reduceEqDiff, Nat.reduceAdd, Nat.reduceSub, Nat.reduceLT, Nat.reduceMul, Nat.reduceBEq, Nat.reduceLeDiff, ↓reduceIte, Int.reduceToNat, Nat.reduceGT, Int.reduceLE, Int.reduceLT, Int.reduceGE, Int.reduceGT, Int.reduceEq, Int.reduceNe, reduceCtorEq, b1]
  · have c := rsource_calls p.hd p.ds hp1
    simp only [declsAV] at c
    refine callX_by c ?_
    clear c
    rintro r hp2 ⟨rfl, rfl⟩
    simp only [go_sem, Nat.reduceEqDiff, Nat.reduceAdd, Nat.reduceSub, Nat.reduceLT, Nat.reduceMul, Nat.reduceBEq, Nat.reduceLeDiff, ↓reduceIte, Int.reduceToNat, Nat.reduceGT, Int.reduceLE, Int.reduceLT, Int.reduceGE, Int.reduceGT, Int.reduceEq, Int.reduceNe, reduceCtorEq, ← source_same]
    refine brK_mk (fun b2 => ?_) (fun b2 => ?_) <;> simp only [go_sem, Nat.reduceEqDiff, Nat.reduceAdd, Nat.reduceSub, Nat.reduceLT, Nat.reduceMul, Nat.reduceBEq, Nat.reduceLeDiff, ↓reduceIte, Int.reduceToNat, Nat.reduceGT, Int.reduceLE, Int.reduceLT, Int.reduceGE, Int.reduceGT, Int.reduceEq, Int.reduceNe, reduceCtorEq, b2]
    · have c := heads_calls p hpf hp2
      simp only [ProgG.av, ProgG.cs, declsAV, funsAV] at c
      refine callX_by c ?_
      clear c
      rintro r hp3 ⟨rfl, rfl⟩
      simp only [go_sem, Nat.reduceEqDiff, Nat.reduceAdd, Nat.reduceSub, Nat.reduceLT, Nat.reduceMul, Nat.reduceBEq, Nat.reduceLeDiff, ↓reduceIte, Int.reduceToNat, Nat.reduceGT, Int.reduceLE, Int.reduceLT, Int.reduceGE, Int.reduceGT, Int.reduceEq, Int.reduceNe, reduceCtorEq]
      refine brK_mk (fun b3 => ?_) (fun b3 => ?_) <;> simp only [go_sem, Nat.reduceEqDiff, Nat.reduceAdd, Nat.reduceSub, Nat.reduceLT, Nat.reduceMul, Nat.reduceBEq, Nat.reduceLeDiff, ↓reduceIte, Int.reduceToNat, Nat.reduceGT, Int.reduceLE, Int.reduceLT, Int.reduceGE, Int.reduceGT, Int.reduceEq, Int.reduceNe, reduceCtorEq, b3]
      · have hpb : progB p = (p.fs.all (bodyOk p.ds p.pf) && decide ((sumN p.fs : Int) ≤ 600)) := by rw [is_same, b1, b2, b3]; rfl
        have hfl : p.fs.length ≤ 12 := by
          have h := b3
          rw [headsF, Bool.and_eq_true, Bool.and_eq_true, Bool.not_eq_true', Bool.not_eq_true', decide_eq_false_iff_not, decide_eq_false_iff_not] at h; omega
        have ok : PreR p := ⟨small_valid b1, by rw [validB, Bool.and_eq_true, Bool.not_eq_true', decide_eq_false_iff_not] at b1; omega, b2⟩
        refine aw_loopX 50 (fun k : Nat => [(1, .ref q1 [.lst 3 p.hd (p.ds.map DeclG.av), .lst 9 p.hf (p.fs.map FunG.av)]), (3, .v (.int .i64 (sumN (p.fs.take k)))), (22, .lst 9 p.hf (p.fs.map FunG.av)), (23, .v (.int .i64 p.fs.length)), (24, .v (.int .i64 k))])
          (fun _ => hp3) (fun k => k ≤ p.fs.length ∧ (sumN (p.fs.take k) ≤ 600 * k ∧ (p.fs.drop k).all (bodyOk p.ds p.pf) = p.fs.all (bodyOk p.ds p.pf))) (fun k => p.fs.length - k) 0 ⟨Nat.zero_le _, by simp [sumN], rfl⟩ (le_mkSl rfl (Hp.le_refl _) (by simp [go_sem, sumN])) ?_
        rintro k ⟨hk, hsn, hd⟩
        refine awp_sound (mu := []) _ _ _ ?_
        simp only [go_sem, Nat.reduceEqDiff, Nat.reduceAdd, Nat.reduceSub, Nat.reduceLT, Nat.reduceMul, Nat.reduceBEq, Nat.reduceLeDiff, ↓reduceIte, Int.reduceToNat, Nat.reduceGT, Int.reduceLE, Int.reduceLT, Int.reduceGE, Int.reduceGT, Int.reduceEq, Int.reduceNe, reduceCtorEq]
        refine brK_mk (fun b4 => ?_) (fun b4 => ?_) <;> simp only [go_sem, Nat.reduceEqDiff, Nat.reduceAdd, Nat.reduceSub, Nat.reduceLT, Nat.reduceMul, Nat.reduceBEq, Nat.reduceLeDiff, ↓reduceIte, Int.reduceToNat, Nat.reduceGT, Int.reduceLE, Int.reduceLT, Int.reduceGE, Int.reduceGT, Int.reduceEq, Int.reduceNe, reduceCtorEq, b4]
        · have hk' : k < p.fs.length := by simpa using b4
          obtain ⟨f, hf⟩ := someAt p.fs k hk'
          have hwu : IntKind.i64.wrap ((k : Int) + 1) = ((k + 1 : Nat) : Int) := IntWalk.i64_in _ (by omega)
          have hpfb := hpf f (List.mem_of_getElem? hf)
          rw [dropK hf, List.all_cons] at hd
          simp only [go_sem, Nat.reduceEqDiff, Nat.reduceAdd, Nat.reduceSub, Nat.reduceLT, Nat.reduceMul, Nat.reduceBEq, Nat.reduceLeDiff, ↓reduceIte, Int.reduceToNat, Nat.reduceGT, Int.reduceLE, Int.reduceLT, Int.reduceGE, Int.reduceGT, Int.reduceEq, Int.reduceNe, reduceCtorEq, mapAt FunG.av _ _ _ hf, FunG.av, FunG.cs, paramsAV]
          intro v hv
          have hds := fun T cs => Hp.del_set _ _ T cs hv.1
          simp only [go_sem, Nat.reduceEqDiff, Nat.reduceAdd, Nat.reduceSub, Nat.reduceLT, Nat.reduceMul, Nat.reduceBEq, Nat.reduceLeDiff, ↓reduceIte, Int.reduceToNat, Nat.reduceGT, Int.reduceLE, Int.reduceLT, Int.reduceGE, Int.reduceGT, Int.reduceEq, Int.reduceNe, reduceCtorEq, hds]
          refine draw_by (mu := []) (fun _ => True) (.take 0 (.take 1 (.br 2 (.take 3 (.take 4 (.take 5 (.take 6 (.take 7 (.take 9 (.take 10 (.br 8 (.br 11 (.take 12 (.take 13 (.done))) (.stop)) (.stop))))))))) (.stop)))) (by decide +kernel) trivial (by decide +kernel) (by decide +kernel) ?_
          simp only [go_sem, Nat.reduceEqDiff, Nat.reduceAdd, Nat.reduceSub, Nat.reduceLT, Nat.reduceMul, Nat.reduceBEq, Nat.reduceLeDiff, ↓reduceIte, Int.reduceToNat, Nat.reduceGT, Int.reduceLE, Int.reduceLT, Int.reduceGE, Int.reduceGT, Int.reduceEq, Int.reduceNe, reduceCtorEq, hds]
          have c := small_calls f.body hp3
          simp only [TermG.av, TermG.cs_eq] at c
          refine callX_by c ?_
          clear c
          rintro r hp4 ⟨rfl, rfl⟩
          simp only [go_sem, Nat.reduceEqDiff, Nat.reduceAdd, Nat.reduceSub, Nat.reduceLT, Nat.reduceMul, Nat.reduceBEq, Nat.reduceLeDiff, ↓reduceIte, Int.reduceToNat, Nat.reduceGT, Int.reduceLE, Int.reduceLT, Int.reduceGE, Int.reduceGT, Int.reduceEq, Int.reduceNe, reduceCtorEq]
          refine brK_mk (fun b5 => ?_) (fun b5 => ?_) <;> simp only [go_sem, Nat.reduceEqDiff, Nat.reduceAdd, Nat.reduceSub, Nat.reduceLT, Nat.reduceMul, Nat.reduceBEq, Nat.reduceLeDiff, ↓reduceIte, Int.reduceToNat, Nat.reduceGT, Int.reduceLE, Int.reduceLT, Int.reduceGE, Int.reduceGT, Int.reduceEq, Int.reduceNe, reduceCtorEq, b5]
          · have hn6 : nodesT f.body ≤ 600 ∧ depthT f.body ≤ 24 := by simpa using b5
            have c := rparams_calls f.hp f.params hpfb hp4
            simp only [paramsAV] at c
            refine callX_by c ?_
            clear c
            rintro r hp5 ⟨h36, rfl, rfl⟩
            simp only [go_sem, Nat.reduceEqDiff, Nat.reduceAdd, Nat.reduceSub, Nat.reduceLT, Nat.reduceMul, Nat.reduceBEq, Nat.reduceLeDiff, ↓reduceIte, Int.reduceToNat, Nat.reduceGT, Int.reduceLE, Int.reduceLT, Int.reduceGE, Int.reduceGT, Int.reduceEq, Int.reduceNe, reduceCtorEq]
            have c : ACalls Tryz.prog 19 [p.av, strsAV h36 (f.params.map ParamG.name), .v (.slice none 0 0), f.body.av] hp5 (fun r hp' => r = .v (.bool (validT p.ds p.pf (hasB (f.params.map ParamG.name)) (fun _ => false) f.body)) ∧ hp' = hp5) := by
              have c := rvalid_calls ok (nodesT f.body) f.body (Nat.le_refl _) h36 (.slice none 0 0) (f.params.map ParamG.name) [] (by rw [List.length_map]; omega) (by simp only [List.length_nil]; omega) hp5
              rw [hasB_nil] at c
              exact acalls_cast (args := [p.av, strsAV h36 (f.params.map ParamG.name), strsAV (.slice none 0 0) [], f.body.av]) rfl (fun m h => ⟨h.1, h.2.1, (Cast.nil 1).2 m trivial, h.2.2.2⟩) c
            simp only [TermG.av, TermG.cs_eq, ProgG.av, ProgG.cs, declsAV, funsAV] at c
            refine callX_by c ?_
            clear c
            rintro r hp6 ⟨rfl, rfl⟩
            simp only [go_sem, Nat.reduceEqDiff, Nat.reduceAdd, Nat.reduceSub, Nat.reduceLT, Nat.reduceMul, Nat.reduceBEq, Nat.reduceLeDiff, ↓reduceIte, Int.reduceToNat, Nat.reduceGT, Int.reduceLE, Int.reduceLT, Int.reduceGE, Int.reduceGT, Int.reduceEq, Int.reduceNe, reduceCtorEq]
            refine brK_mk (fun b6 => ?_) (fun b6 => ?_) <;> simp only [go_sem, Nat.reduceEqDiff, Nat.reduceAdd, Nat.reduceSub, Nat.reduceLT, Nat.reduceMul, Nat.reduceBEq, Nat.reduceLeDiff, ↓reduceIte, Int.reduceToNat, Nat.reduceGT, Int.reduceLE, Int.reduceLT, Int.reduceGE, Int.reduceGT, Int.reduceEq, Int.reduceNe, reduceCtorEq, b6]
            · have c := nodesN_calls 600 f.body hn6.1 (by omega) hp6
              simp only [TermG.av, TermG.cs_eq] at c
              refine callX_by c ?_
              clear c
              rintro r hp7 ⟨rfl, rfl⟩
              have hst := sum_take hf
              have hws : IntKind.i64.wrap ((sumN (p.fs.take k) : Int) + (nodesT f.body : Int)) = (sumN (p.fs.take (k + 1)) : Int) := by
                rw [hst, show (sumN (p.fs.take k) : Int) + (nodesT f.body : Int) = ((sumN (p.fs.take k) + nodesT f.body : Nat) : Int) by omega]; exact IntWalk.i64_in _ (by omega)
              rw [bodyOk, b5, b6, Bool.true_and, Bool.true_and] at hd
              simp only [go_sem, Nat.reduceEqDiff, Nat.reduceAdd, Nat.reduceSub, Nat.reduceLT, Nat.reduceMul, Nat.reduceBEq, Nat.reduceLeDiff, ↓reduceIte, Int.reduceToNat, Nat.reduceGT, Int.reduceLE, Int.reduceLT, Int.reduceGE, Int.reduceGT, Int.reduceEq, Int.reduceNe, reduceCtorEq, hws, hwu]
              exact ⟨k + 1, by omega, ⟨by omega, by omega, hd⟩, le_mkSl rfl (Hp.le_refl _) (by simp [go_sem, hwu, hws])⟩
            · exact ret_same ⟨by rw [hpb, ← hd, bodyOk, b5, b6]; rfl, rfl⟩
          · exact ret_same ⟨by rw [hpb, ← hd, bodyOk, b5]; rfl, rfl⟩
        · have e : k = p.fs.length := by simp at b4; omega
          rw [e, List.drop_of_length_le (Nat.le_refl _)] at hd
          subst e
          rw [List.take_length] at *
          exact ret_same ⟨by rw [hpb, ← hd]; rfl, rfl⟩
      · exact ret_same ⟨by rw [is_same, b3]; simp, rfl⟩
    · exact ret_same ⟨by rw [is_same, b2]; simp, rfl⟩
  · exact ret_same ⟨by rw [is_same, b1]; rfl, rfl⟩
end Go.Proofs.YtppoacgeiooppaaGreat
/- The reference of the layer 'check': find, with, bound. -/
set_option linter.unusedSimpArgs false
set_option linter.unusedVariables false
set_option maxRecDepth 20000
set_option maxHeartbeats 4000000
namespace Go.Proofs.YtppoacgeiooppaaGreat
open Go.AL

theorem bindE_append : ∀ (a b : List Bytes) (x y : List Int) (E : Bytes → Option Int), a.length = x.length → bindE E (a ++ b) (x ++ y) = bindE (bindE E a x) b y
  | [], b, [], y, E, _ => by rw [bindE_nil]; rfl
  | [], _, _ :: _, _, _, h => by cases h
  | _ :: _, _, [], _, _, h => by cases h
  | s :: a, b, t :: x, y, E, h => by
    rw [List.cons_append, List.cons_append, bindE, bindE, bindE_append a b x y _ (by simpa using h)]
theorem envP_append (V : List ParamG) (l : List ParamG) : envP (V ++ l) = bindE (envP V) (l.map ParamG.name) (l.map ParamG.ty) := by
  rw [envP, List.map_append, List.map_append, bindE_append _ _ _ _ _ (by simp)]; rfl
theorem envP_snoc (V : List ParamG) (x : ParamG) : envP (V ++ [x]) = setE (envP V) x.name x.ty := by
  rw [envP_append, List.map_cons, List.map_cons, List.map_nil, List.map_nil, bindE, bindE_nil]
theorem envP_nil : envP [] = fun _ => none := by rw [envP, List.map_nil, List.map_nil, bindE_nil]
def zipP : List Bytes → List Int → List ParamG
  | s :: r, t :: q => ⟨s, t⟩ :: zipP r q
  | _, _ => []
theorem zipP_bind : ∀ (names : List Bytes) (ts : List Int) (E : Bytes → Option Int), bindE E ((zipP names ts).map ParamG.name) ((zipP names ts).map ParamG.ty) = bindE E names ts
  | [], ts, E => by rw [show zipP [] ts = [] from by cases ts <;> rfl, List.map_nil, List.map_nil, bindE_nil, bindE_nil]
  | s :: r, [], E => by rw [show zipP (s :: r) [] = [] from rfl, List.map_nil, List.map_nil, bindE_nil, bindE]; intro s r t q h1 h2; cases h2
  | s :: r, t :: q, E => by rw [zipP, List.map_cons, List.map_cons, bindE, zipP_bind r q, bindE]
theorem zipP_len : ∀ (names : List Bytes) (ts : List Int), names.length = ts.length → (zipP names ts).length = ts.length
  | [], [], _ => rfl
  | [], _ :: _, h => by cases h
  | _ :: _, [], h => by cases h
  | s :: r, t :: q, h => by rw [zipP, List.length_cons, List.length_cons, zipP_len r q (by simpa using h)]
theorem zipP_take : ∀ (names : List Bytes) (ts : List Int) (k : Nat) {s : Bytes} {t : Int}, names[k]? = some s → ts[k]? = some t → (zipP names ts).take (k + 1) = (zipP names ts).take k ++ [⟨s, t⟩]
  | [], _, _, _, _, h, _ => by simp at h
  | _ :: _, [], _, _, _, _, h => by simp at h
  | a :: r, b :: q, 0, s, t, h1, h2 => by
    simp only [List.getElem?_cons_zero, Option.some.injEq] at h1 h2
    subst h1; subst h2; rfl
  | a :: r, b :: q, k + 1, s, t, h1, h2 => by
    rw [List.getElem?_cons_succ] at h1 h2
    rw [zipP, List.take_succ_cons, List.take_succ_cons, zipP_take r q k h1 h2]; rfl
theorem rfind_P_calls (h : Value) (l : List ParamG) (s : Bytes) (hp : Hp) : ACalls Tryz.prog 121 [paramsAV h l, .v (.string (bs s))] hp (fun r hp' => r = .v (.int .i64 ((envP l s).getD (-1))) ∧ hp' = hp) := by
  refine acalls_fit (callable_of Tryz.func121 (by decide +kernel)) fun hfit => ?_
  have hl : l.length ≤ maxLen := fit_lst hfit.1
  clear hfit
  have hl' : l.length ≤ 9223372036854775807 := by simp only [maxLen] at hl; omega
  have hw0 : IntKind.i64.wrap ((l.length : Int) - 1) = (l.length : Int) - 1 := IntWalk.i64_in _ (by omega)
  refine acalls_of Tryz.func121 rfl (by decide +kernel) (awp_sound (mu := []) _ _ _ ?_)
  simp only [go_sem, Nat.reduceEqDiff, Nat.reduceAdd, Nat.reduceSub, Nat.reduceLT, Nat.reduceMul, Nat.reduceBEq, Nat.reduceLeDiff, ↓reduceIte, Int.reduceToNat, Nat.reduceGT, Int.reduceLE, Int.reduceLT, Int.reduceGE, Int.reduceGT, Int.reduceEq, Int.reduceNe, reduceCtorEq, paramsAV, List.length_map, hw0]
  refine aw_loopX 25 (fun k : Nat => [(0, .lst 2 h (l.map ParamG.av)), (1, .v (.string (bs s))), (5, .v (.int .i64 ((k : Int) - 1)))])
    (fun _ => hp) (fun k => k ≤ l.length ∧ envP l s = envP (l.take k) s) (fun k => k) l.length ⟨Nat.le_refl _, by rw [List.take_length]⟩ (le_mkSl rfl (Hp.le_refl _) (by simp [go_sem, hw0])) ?_
  rintro k ⟨hk, he⟩
  refine awp_sound (mu := []) _ _ _ ?_
  simp only [go_sem, Nat.reduceEqDiff, Nat.reduceAdd, Nat.reduceSub, Nat.reduceLT, Nat.reduceMul, Nat.reduceBEq, Nat.reduceLeDiff, ↓reduceIte, Int.reduceToNat, Nat.reduceGT, Int.reduceLE, Int.reduceLT, Int.reduceGE, Int.reduceGT, Int.reduceEq, Int.reduceNe, reduceCtorEq]
  refine brK_mk (fun b1 => ?_) (fun b1 => ?_) <;> simp only [go_sem, Nat.reduceEqDiff, Nat.reduceAdd, Nat.reduceSub, Nat.reduceLT, Nat.reduceMul, Nat.reduceBEq, Nat.reduceLeDiff, ↓reduceIte, Int.reduceToNat, Nat.reduceGT, Int.reduceLE, Int.reduceLT, Int.reduceGE, Int.reduceGT, Int.reduceEq, Int.reduceNe, reduceCtorEq, b1]
  · have hk1 : 1 ≤ k := by have := of_decide_eq_true b1; omega
    obtain ⟨j, rfl⟩ : ∃ j, k = j + 1 := ⟨k - 1, by omega⟩
    obtain ⟨x, hx⟩ := someAt l j (by omega)
    have hwj : IntKind.i64.wrap (((j + 1 : Nat) : Int) - 1 - 1) = (j : Int) - 1 := by rw [show ((j + 1 : Nat) : Int) - 1 - 1 = (j : Int) - 1 by omega]; exact IntWalk.i64_in _ (by omega)
    have htn : (((j + 1 : Nat) : Int) - 1).toNat = j := by omega
    rw [List.take_add_one, hx, Option.toList_some, envP_snoc, setE] at he
    simp only [go_sem, Nat.reduceEqDiff, Nat.reduceAdd, Nat.reduceSub, Nat.reduceLT, Nat.reduceMul, Nat.reduceBEq, Nat.reduceLeDiff, ↓reduceIte, Int.reduceToNat, Nat.reduceGT, Int.reduceLE, Int.reduceLT, Int.reduceGE, Int.reduceGT, Int.reduceEq, Int.reduceNe, reduceCtorEq, htn, mapAt ParamG.av _ _ _ hx, ParamG.av, ParamG.cs]
    refine ⟨by omega, ?_⟩
    refine brK_mk (fun b2 => ?_) (fun b2 => ?_) <;> simp only [go_sem, Nat.reduceEqDiff, Nat.reduceAdd, Nat.reduceSub, Nat.reduceLT, Nat.reduceMul, Nat.reduceBEq, Nat.reduceLeDiff, ↓reduceIte, Int.reduceToNat, Nat.reduceGT, Int.reduceLE, Int.reduceLT, Int.reduceGE, Int.reduceGT, Int.reduceEq, Int.reduceNe, reduceCtorEq, b2, htn, mapAt ParamG.av _ _ _ hx, ParamG.av, ParamG.cs, hwj]
    · have e := of_decide_eq_true b2
      rw [if_pos e.symm] at he
      refine ⟨by omega, ?_⟩
      exact ret_same ⟨by rw [he]; rfl, rfl⟩
    · have e := of_decide_eq_false b2
      rw [if_neg (fun h => e h.symm)] at he
      exact ⟨j, by omega, ⟨by omega, he⟩, le_mkSl rfl (Hp.le_refl _) (by simp [go_sem, hwj])⟩
  · have e : k = 0 := by have := of_decide_eq_false b1; omega
    subst e
    rw [List.take_zero, envP_nil] at he
    exact ret_same ⟨by rw [he]; rfl, rfl⟩
theorem ones_params (l : List ParamG) : ((l.map ParamG.av).flatMap AV.cells).all AV.one = true := by
  induction l with
  | nil => rfl
  | cons a l ih => rw [List.map_cons, List.flatMap_cons, List.all_append, ih]; rfl
theorem pwith_calls (h1 h2 : Value) (a b : List ParamG) (hl : a.length + b.length ≤ 5864062014800) (hp : Hp) : ACalls Tryz.prog 119 [paramsAV h1 a, paramsAV h2 b] hp (fun r hp' => ∃ h, r = paramsAV h (a ++ b) ∧ hp' = hp) := by
  refine acalls_of Tryz.func119 rfl (by decide +kernel) (awp_sound (mu := []) _ _ _ ?_)
  simp only [go_sem, Nat.reduceEqDiff, Nat.reduceAdd, Nat.reduceSub, Nat.reduceLT, Nat.reduceMul, Nat.reduceBEq, Nat.reduceLeDiff, ↓reduceIte, Int.reduceToNat, Nat.reduceGT, Int.reduceLE, Int.reduceLT, Int.reduceGE, Int.reduceGT, Int.reduceEq, Int.reduceNe, reduceCtorEq, paramsAV]
  refine append0_by (a := .v (.slice none 0 0)) (b := paramsAV h1 a) (h2 := h1) (ys := a.map ParamG.av) Tryz.k37 Tryz.s81 Tryz.y81 Tryz.z81 rfl (by decide)
    (by simp [go_sem]) (Cast.nil 2) (by simp [go_sem, paramsAV]) (Cast.refl _) (ones_params _) (by simp [maxLen]; omega) (by simp; omega) (by simp [go_sem]) (fun h3 => ?_)
  simp only [go_sem, Nat.reduceEqDiff, Nat.reduceAdd, Nat.reduceSub, Nat.reduceLT, Nat.reduceMul, Nat.reduceBEq, Nat.reduceLeDiff, ↓reduceIte, Int.reduceToNat, Nat.reduceGT, Int.reduceLE, Int.reduceLT, Int.reduceGE, Int.reduceGT, Int.reduceEq, Int.reduceNe, reduceCtorEq]
  refine append_by (a := paramsAV h3 a) (b := paramsAV h2 b) (l1 := []) (l2 := hp.sp) (h := h3) (h2 := h2) Tryz.k37 Tryz.s81 Tryz.y81 Tryz.z81 rfl (by decide)
    (by simp [go_sem, paramsAV]) (Cast.refl _) (by simp [go_sem, paramsAV]) (Cast.refl _) (by simp [go_sem]) (ones_params _) (by simp [maxLen]; omega) (by simp; omega) (by simp [go_sem]) (fun h4 => ?_)
  simp only [go_sem, Nat.reduceEqDiff, Nat.reduceAdd, Nat.reduceSub, Nat.reduceLT, Nat.reduceMul, Nat.reduceBEq, Nat.reduceLeDiff, ↓reduceIte, Int.reduceToNat, Nat.reduceGT, Int.reduceLE, Int.reduceLT, Int.reduceGE, Int.reduceGT, Int.reduceEq, Int.reduceNe, reduceCtorEq]
  exact ret_le (Hp.le_addSp _ _) ⟨h4, by simp [paramsAV], rfl⟩
theorem bound_P_calls (x : XtorG) (hx6 : x.args.length ≤ 6) (hn : Value) (names : List Bytes) (hlen : names.length = prodN x) (hp : Hp) : ACalls Tryz.prog 120 [x.av, strsAV hn names] hp (fun r hp' => ∃ h, r = paramsAV h (zipP names (prodsX x)) ∧ hp' = hp) := by
  refine acalls_addNil 81 2 ?_
  have hpl := prods_len x
  have hp6 : prodN x ≤ 6 := Nat.le_trans (List.length_filter_le _ _) hx6
  refine acalls_of Tryz.func120 rfl (by decide +kernel) (awp_sound (mu := []) _ _ _ ?_)
  simp only [go_sem, Nat.reduceEqDiff, Nat.reduceAdd, Nat.reduceSub, Nat.reduceLT, Nat.reduceMul, Nat.reduceBEq, Nat.reduceLeDiff, ↓reduceIte, Int.reduceToNat, Nat.reduceGT, Int.reduceLE, Int.reduceLT, Int.reduceGE, Int.reduceGT, Int.reduceEq, Int.reduceNe, reduceCtorEq, XtorG.av, XtorG.cs, strsAV]
  intro q1
  have c := rproducers_calls x hx6 (hp.setSp ((81, 2, .slice none 0 0) :: hp.sp))
  simp only [XtorG.av, XtorG.cs] at c
  refine callX_by c ?_
  clear c
  rintro r hp1 ⟨h9, rfl, rfl⟩
  simp only [go_sem, Nat.reduceEqDiff, Nat.reduceAdd, Nat.reduceSub, Nat.reduceLT, Nat.reduceMul, Nat.reduceBEq, Nat.reduceLeDiff, ↓reduceIte, Int.reduceToNat, Nat.reduceGT, Int.reduceLE, Int.reduceLT, Int.reduceGE, Int.reduceGT, Int.reduceEq, Int.reduceNe, reduceCtorEq, intsAV, List.length_map, hpl]
  refine aw_loopX 27 (fun y : Nat × Value => [(1, .lst 1 hn (names.map fun s => .v (.string (bs s)))), (5, paramsAV y.2 ((zipP names (prodsX x)).take y.1)), (9, .lst 1 h9 ((prodsX x).map iv)), (10, .v (.int .i64 (prodN x))), (11, .v (.int .i64 y.1))])
    (fun y => hp.setSp ((81, 2, y.2) :: hp.sp)) (fun y => y.1 ≤ prodN x) (fun y => prodN x - y.1) (0, .slice none 0 0) (Nat.zero_le _) (le_of_cast rfl ⟨fun _ _ h => h, fun _ _ h => h, List.sublist_cons_self _ _, fun _ h => h⟩ (by simp [go_sem, Cast.refl, paramsAV]; exact Cast.nil 2)) ?_
  rintro ⟨k, h5⟩ hk
  simp only at hk
  refine awp_sound (mu := []) _ _ _ ?_
  simp only [go_sem, Nat.reduceEqDiff, Nat.reduceAdd, Nat.reduceSub, Nat.reduceLT, Nat.reduceMul, Nat.reduceBEq, Nat.reduceLeDiff, ↓reduceIte, Int.reduceToNat, Nat.reduceGT, Int.reduceLE, Int.reduceLT, Int.reduceGE, Int.reduceGT, Int.reduceEq, Int.reduceNe, reduceCtorEq, paramsAV]
  refine brK_mk (fun b1 => ?_) (fun b1 => ?_) <;> simp only [go_sem, Nat.reduceEqDiff, Nat.reduceAdd, Nat.reduceSub, Nat.reduceLT, Nat.reduceMul, Nat.reduceBEq, Nat.reduceLeDiff, ↓reduceIte, Int.reduceToNat, Nat.reduceGT, Int.reduceLE, Int.reduceLT, Int.reduceGE, Int.reduceGT, Int.reduceEq, Int.reduceNe, reduceCtorEq, b1]
  · have hk' : k < prodN x := by simpa using b1
    obtain ⟨a, ha⟩ := someAt (prodsX x) k (by omega)
    obtain ⟨s, hs⟩ := someAt names k (by omega)
    have hwu : IntKind.i64.wrap ((k : Int) + 1) = ((k + 1 : Nat) : Int) := IntWalk.i64_in _ (by omega)
    have htk := zipP_take names (prodsX x) k hs ha
    have hzl : ((zipP names (prodsX x)).take k).length ≤ 6 := by rw [List.length_take]; omega
    simp only [go_sem, Nat.reduceEqDiff, Nat.reduceAdd, Nat.reduceSub, Nat.reduceLT, Nat.reduceMul, Nat.reduceBEq, Nat.reduceLeDiff, ↓reduceIte, Int.reduceToNat, Nat.reduceGT, Int.reduceLE, Int.reduceLT, Int.reduceGE, Int.reduceGT, Int.reduceEq, Int.reduceNe, reduceCtorEq, mapAt iv _ _ _ ha, iv, strAt _ _ _ hs]
    refine ⟨rfl, by simp, fun hd => ?_⟩
    refine append_by (a := paramsAV h5 ((zipP names (prodsX x)).take k)) (b := .lst 2 hd [ParamG.av ⟨s, a⟩]) (l1 := [(81, 2, hd)]) (l2 := hp.sp) (h := h5) (h2 := hd) Tryz.k37 Tryz.s81 Tryz.y81 Tryz.z81 rfl (by decide)
      (by simp [go_sem, paramsAV]) (Cast.refl _) (by simp [go_sem, ParamG.av, ParamG.cs]) (Cast.refl _) (by simp [go_sem]) (by simp [go_sem, ParamG.av, ParamG.cs]) (by simp [maxLen]; omega) (by simp; omega) (by simp [go_sem]) (fun h6 => ?_)
    simp only [go_sem, Nat.reduceEqDiff, Nat.reduceAdd, Nat.reduceSub, Nat.reduceLT, Nat.reduceMul, Nat.reduceBEq, Nat.reduceLeDiff, ↓reduceIte, Int.reduceToNat, Nat.reduceGT, Int.reduceLE, Int.reduceLT, Int.reduceGE, Int.reduceGT, Int.reduceEq, Int.reduceNe, reduceCtorEq, hwu]
    exact ⟨(k + 1, h6), by simp only; omega, by simp only; omega, le_mkSl rfl ⟨fun _ _ h => h, fun _ _ h => h, List.sublist_cons_self _ _, fun _ h => h⟩ (by rw [htk]; simp [go_sem, hwu, paramsAV])⟩
  · have e : k = prodN x := by simp at b1; omega
    subst e
    rw [List.take_of_length_le (by rw [zipP_len _ _ (by omega)]; omega)]
    exact ret_le (Hp.le_addSp _ _) ⟨h5, rfl, rfl⟩
end Go.Proofs.YtppoacgeiooppaaGreat
