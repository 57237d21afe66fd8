/- The reference of the layer 'term': nodes and depth. -/
import Derived.Test.YtkoachnlimebaaaDoorCV0
import Derived.Test.YtkoachnlimebaaaDoorCAL34
set_option linter.unusedSimpArgs false
set_option linter.unusedVariables false
set_option maxRecDepth 20000
set_option maxHeartbeats 4000000
namespace Go.Proofs.YtkoachnlimebaaaDoor
open Go.AL

theorem nodesA_snoc (l : List TermG) (a : TermG) : nodesA (l ++ [a]) = nodesA l + nodesT a := by
  induction l with
  | nil => rw [List.nil_append, nodesA_cons, nodesA]; omega
  | cons b r ih => rw [List.cons_append, nodesA_cons, nodesA_cons, ih]; omega
theorem nodesC_snoc (l : List ClauseG) (a : ClauseG) : nodesC (l ++ [a]) = nodesC l + nodesT a.body := by
  induction l with
  | nil => rw [List.nil_append, nodesC_cons, nodesC]; omega
  | cons b r ih => rw [List.cons_append, nodesC_cons, nodesC_cons, ih]; omega
theorem nodesA_take {l : List TermG} {k : Nat} {a : TermG} (h : l[k]? = some a) : nodesA (l.take (k + 1)) = nodesA (l.take k) + nodesT a := by rw [List.take_add_one, h, ← nodesA_snoc]; rfl
theorem nodesC_take {l : List ClauseG} {k : Nat} {a : ClauseG} (h : l[k]? = some a) : nodesC (l.take (k + 1)) = nodesC (l.take k) + nodesT a.body := by rw [List.take_add_one, h, ← nodesC_snoc]; rfl
theorem nodesA_take_le (l : List TermG) (k : Nat) : nodesA (l.take k) ≤ nodesA l := by
  induction l generalizing k with
  | nil => simp
  | cons b r ih => cases k with
    | zero => simp [nodesA]
    | succ k => rw [List.take_succ_cons, nodesA_cons, nodesA_cons]; have := ih k; omega
theorem nodesC_take_le (l : List ClauseG) (k : Nat) : nodesC (l.take k) ≤ nodesC l := by
  induction l generalizing k with
  | nil => simp
  | cons b r ih => cases k with
    | zero => simp [nodesC]
    | succ k => rw [List.take_succ_cons, nodesC_cons, nodesC_cons]; have := ih k; omega
theorem fit_term {t : TermG} (h : t.av.fit) : t.args.length ≤ maxLen ∧ t.cls.length ≤ maxLen := by
  simp only [TermG.av, TermG.cs_eq, AV.fit, AV.fits] at h
  exact ⟨fit_lst (f := TermG.av) (sz := 6) (h := t.ha) (l := t.args) (by simpa [AV.fit] using h.2.2.2.2.1), fit_lst (f := ClauseG.av) (sz := 7) (h := t.hc) (l := t.cls) (by simpa [AV.fit] using h.2.2.2.2.2.1)⟩
theorem left_calls : ∀ (N : Nat) (t : TermG), nodesT t ≤ N → ∀ (m : Nat), 1 ≤ m → m ≤ 5000 → ∀ (hp : Hp),
    ACalls Tryd.prog 29 [t.av, .v (.int .i64 m)] hp (fun r hp' => r = .v (.int .i64 (m - nodesT t : Nat)) ∧ hp' = hp)
  | 0, t, hN, _, _, _, _ => by have := nodesT_pos t; omega
  | N + 1, t, hN, m, hm1, hm2, hp => by
    have hrec := left_calls N
    refine acalls_fit (callable_of Tryd.func29 (by decide +kernel)) fun hfit => ?_
    obtain ⟨hla, hlc⟩ := fit_term hfit.1
    clear hfit
    have hnt := nodesT_eq t
    have hw1 : IntKind.i64.wrap ((m : Int) - 1) = ((m - 1 : Nat) : Int) := by rw [show (m : Int) - 1 = ((m - 1 : Nat) : Int) by omega]; exact IntWalk.i64_in _ (by omega)
    refine acalls_of Tryd.func29 rfl (by decide +kernel) (awp_sound (mu := []) _ _ _ ?_)
    simp only [go_sem, Nat.reduceEqDiff, Nat.reduceAdd, Nat.reduceSub, Nat.reduceLT, Nat.reduceMul, Nat.reduceBEq, Nat.reduceLeDiff, ↓reduceIte, Int.reduceToNat, Nat.reduceGT, Int.reduceLE, Int.reduceLT, Int.reduceGE, Int.reduceGT, Int.reduceEq, Int.reduceNe, reduceCtorEq, TermG.av, TermG.cs_eq, hw1]
    intro q1
    refine aw_loopX 48 (fun k : Nat => [(1, .v (.int .i64 (m - 1 - nodesA (t.args.take k) : Nat))), (2, .ref q1 [.v (.int .i64 t.op), .v (.int .i64 t.n), .v (.string (bs t.name)), .v (.int .i64 t.ty), .lst 6 t.ha (t.args.map TermG.av), .lst 7 t.hc (t.cls.map ClauseG.av)]), (5, .v (.int .i64 k))])
      (fun _ => hp) (fun k => k ≤ t.args.length) (fun k => t.args.length - k) 0
      (Nat.zero_le _) (le_mkSl rfl (Hp.le_refl _) (by simp [go_sem, nodesA])) ?_
    intro k hk
    refine awp_sound (mu := []) _ _ _ ?_
    simp only [go_sem, Nat.reduceEqDiff, Nat.reduceAdd, Nat.reduceSub, Nat.reduceLT, Nat.reduceMul, Nat.reduceBEq, Nat.reduceLeDiff, ↓reduceIte, Int.reduceToNat, Nat.reduceGT, Int.reduceLE, Int.reduceLT, Int.reduceGE, Int.reduceGT, Int.reduceEq, Int.reduceNe, reduceCtorEq]
    refine brK_mk (fun b1 => ?_) (fun b1 => ?_) <;> simp only [go_sem, Nat.reduceEqDiff, Nat.reduceAdd, Nat.reduceSub, Nat.reduceLT, Nat.reduceMul, Nat.reduceBEq, Nat.reduceLeDiff, ↓reduceIte, Int.reduceToNat, Nat.reduceGT, Int.reduceLE, Int.reduceLT, Int.reduceGE, Int.reduceGT, Int.reduceEq, Int.reduceNe, reduceCtorEq, b1]
    · refine brK_mk (fun b2 => ?_) (fun b2 => ?_) <;> simp only [go_sem, Nat.reduceEqDiff, Nat.reduceAdd, Nat.reduceSub, Nat.reduceLT, Nat.reduceMul, Nat.reduceBEq, Nat.reduceLeDiff, ↓reduceIte, Int.reduceToNat, Nat.reduceGT, Int.reduceLE, Int.reduceLT, Int.reduceGE, Int.reduceGT, Int.reduceEq, Int.reduceNe, reduceCtorEq, b2]
      · have hk' : k < t.args.length := by simpa using b1
        have hm' := of_decide_eq_true b2
        obtain ⟨a, ha⟩ := someAt t.args k hk'
        have hmem := List.mem_of_getElem? ha
        have hwk := upK k _ hk' hla
        have hlt := args_lt hmem
        have htk := nodesA_take ha
        simp only [go_sem, Nat.reduceEqDiff, Nat.reduceAdd, Nat.reduceSub, Nat.reduceLT, Nat.reduceMul, Nat.reduceBEq, Nat.reduceLeDiff, ↓reduceIte, Int.reduceToNat, Nat.reduceGT, Int.reduceLE, Int.reduceLT, Int.reduceGE, Int.reduceGT, Int.reduceEq, Int.reduceNe, reduceCtorEq, mapAt TermG.av _ _ _ ha, TermG.av, TermG.cs_eq]
        have r := hrec a (by omega) (m - 1 - nodesA (t.args.take k)) (by omega) (by omega) hp
        simp only [TermG.av, TermG.cs_eq] at r
        refine callX_by r ?_
        rintro r hp1 ⟨rfl, rfl⟩
        simp only [go_sem, Nat.reduceEqDiff, Nat.reduceAdd, Nat.reduceSub, Nat.reduceLT, Nat.reduceMul, Nat.reduceBEq, Nat.reduceLeDiff, ↓reduceIte, Int.reduceToNat, Nat.reduceGT, Int.reduceLE, Int.reduceLT, Int.reduceGE, Int.reduceGT, Int.reduceEq, Int.reduceNe, reduceCtorEq, hwk]
        exact ⟨k + 1, by omega, by omega, le_mkSl rfl (Hp.le_refl _) (by rw [htk]; simp [go_sem, hwk]; omega)⟩
      · have hm' := of_decide_eq_false b2
        have hle := nodesA_take_le t.args k
        have hz : m - 1 - nodesA (t.args.take k) = m - 1 - nodesA t.args := by omega
        refine aw_loopX 48 (fun j : Nat => [(1, .v (.int .i64 (m - 1 - nodesA t.args - nodesC (t.cls.take j) : Nat))), (2, .ref q1 [.v (.int .i64 t.op), .v (.int .i64 t.n), .v (.string (bs t.name)), .v (.int .i64 t.ty), .lst 6 t.ha (t.args.map TermG.av), .lst 7 t.hc (t.cls.map ClauseG.av)]), (6, .v (.int .i64 j))])
          (fun _ => hp) (fun j => j ≤ t.cls.length) (fun j => t.cls.length - j) 0
          (Nat.zero_le _) (le_mkSl rfl (Hp.le_refl _) (by simp [go_sem, nodesC, hz])) ?_
        intro j hj
        refine awp_sound (mu := []) _ _ _ ?_
        simp only [go_sem, Nat.reduceEqDiff, Nat.reduceAdd, Nat.reduceSub, Nat.reduceLT, Nat.reduceMul, Nat.reduceBEq, Nat.reduceLeDiff, ↓reduceIte, Int.reduceToNat, Nat.reduceGT, Int.reduceLE, Int.reduceLT, Int.reduceGE, Int.reduceGT, Int.reduceEq, Int.reduceNe, reduceCtorEq]
        refine brK_mk (fun b3 => ?_) (fun b3 => ?_) <;> simp only [go_sem, Nat.reduceEqDiff, Nat.reduceAdd, Nat.reduceSub, Nat.reduceLT, Nat.reduceMul, Nat.reduceBEq, Nat.reduceLeDiff, ↓reduceIte, Int.reduceToNat, Nat.reduceGT, Int.reduceLE, Int.reduceLT, Int.reduceGE, Int.reduceGT, Int.reduceEq, Int.reduceNe, reduceCtorEq, b3]
        · refine brK_mk (fun b4 => ?_) (fun b4 => ?_) <;> simp only [go_sem, Nat.reduceEqDiff, Nat.reduceAdd, Nat.reduceSub, Nat.reduceLT, Nat.reduceMul, Nat.reduceBEq, Nat.reduceLeDiff, ↓reduceIte, Int.reduceToNat, Nat.reduceGT, Int.reduceLE, Int.reduceLT, Int.reduceGE, Int.reduceGT, Int.reduceEq, Int.reduceNe, reduceCtorEq, b4]
          · have hj' : j < t.cls.length := by simpa using b3
            have hm' := of_decide_eq_true b4
            obtain ⟨c, hc⟩ := someAt t.cls j hj'
            have hmem := List.mem_of_getElem? hc
            have hwj := upK j _ hj' hlc
            have hlt := cls_lt hmem
            have htk := nodesC_take hc
            simp only [go_sem, Nat.reduceEqDiff, Nat.reduceAdd, Nat.reduceSub, Nat.reduceLT, Nat.reduceMul, Nat.reduceBEq, Nat.reduceLeDiff, ↓reduceIte, Int.reduceToNat, Nat.reduceGT, Int.reduceLE, Int.reduceLT, Int.reduceGE, Int.reduceGT, Int.reduceEq, Int.reduceNe, reduceCtorEq, mapAt ClauseG.av _ _ _ hc, ClauseG.av, ClauseG.cs_eq]
            have r := hrec c.body (by omega) (m - 1 - nodesA t.args - nodesC (t.cls.take j)) (by omega) (by omega) hp
            simp only [TermG.av, TermG.cs_eq] at r
            refine callX_by r ?_
            rintro r hp1 ⟨rfl, rfl⟩
            simp only [go_sem, Nat.reduceEqDiff, Nat.reduceAdd, Nat.reduceSub, Nat.reduceLT, Nat.reduceMul, Nat.reduceBEq, Nat.reduceLeDiff, ↓reduceIte, Int.reduceToNat, Nat.reduceGT, Int.reduceLE, Int.reduceLT, Int.reduceGE, Int.reduceGT, Int.reduceEq, Int.reduceNe, reduceCtorEq, hwj]
            exact ⟨j + 1, by omega, by omega, le_mkSl rfl (Hp.le_refl _) (by rw [htk]; simp [go_sem, hwj]; omega)⟩
          · have hm' := of_decide_eq_false b4
            have hle := nodesC_take_le t.cls j
            refine max_by (fo := ⟨⟩) (fk := ⟨⟩) (k := .i64) (k' := .i64) (a := ((m - 1 - nodesA t.args - nodesC (t.cls.take j) : Nat) : Int)) (b := 0) (by simp [go_sem]) (by simp [go_sem]) (by simp [go_sem]) ?_
            simp only [go_sem, Nat.reduceEqDiff, Nat.reduceAdd, Nat.reduceSub, Nat.reduceLT, Nat.reduceMul, Nat.reduceBEq, Nat.reduceLeDiff, ↓reduceIte, Int.reduceToNat, Nat.reduceGT, Int.reduceLE, Int.reduceLT, Int.reduceGE, Int.reduceGT, Int.reduceEq, Int.reduceNe, reduceCtorEq]
            exact ret_same ⟨by congr 2; split <;> omega, rfl⟩
        · have e2 : j = t.cls.length := by simp at b3; omega
          subst e2
          rw [List.take_length]
          refine max_by (fo := ⟨⟩) (fk := ⟨⟩) (k := .i64) (k' := .i64) (a := ((m - 1 - nodesA t.args - nodesC t.cls : Nat) : Int)) (b := 0) (by simp [go_sem]) (by simp [go_sem]) (by simp [go_sem]) ?_
          simp only [go_sem, Nat.reduceEqDiff, Nat.reduceAdd, Nat.reduceSub, Nat.reduceLT, Nat.reduceMul, Nat.reduceBEq, Nat.reduceLeDiff, ↓reduceIte, Int.reduceToNat, Nat.reduceGT, Int.reduceLE, Int.reduceLT, Int.reduceGE, Int.reduceGT, Int.reduceEq, Int.reduceNe, reduceCtorEq]
          exact ret_same ⟨by congr 2; split <;> omega, rfl⟩
    · have hz : m - 1 - nodesA (t.args.take k) = m - 1 - nodesA t.args := by
        have e2 : k = t.args.length := by simp at b1; omega
        rw [e2, List.take_length]
      refine aw_loopX 48 (fun j : Nat => [(1, .v (.int .i64 (m - 1 - nodesA t.args - nodesC (t.cls.take j) : Nat))), (2, .ref q1 [.v (.int .i64 t.op), .v (.int .i64 t.n), .v (.string (bs t.name)), .v (.int .i64 t.ty), .lst 6 t.ha (t.args.map TermG.av), .lst 7 t.hc (t.cls.map ClauseG.av)]), (6, .v (.int .i64 j))])
        (fun _ => hp) (fun j => j ≤ t.cls.length) (fun j => t.cls.length - j) 0
        (Nat.zero_le _) (le_mkSl rfl (Hp.le_refl _) (by simp [go_sem, nodesC, hz])) ?_
      intro j hj
      refine awp_sound (mu := []) _ _ _ ?_
      simp only [go_sem, Nat.reduceEqDiff, Nat.reduceAdd, Nat.reduceSub, Nat.reduceLT, Nat.reduceMul, Nat.reduceBEq, Nat.reduceLeDiff, ↓reduceIte, Int.reduceToNat, Nat.reduceGT, Int.reduceLE, Int.reduceLT, Int.reduceGE, Int.reduceGT, Int.reduceEq, Int.reduceNe, reduceCtorEq]
      refine brK_mk (fun b3 => ?_) (fun b3 => ?_) <;> simp only [go_sem, Nat.reduceEqDiff, Nat.reduceAdd, Nat.reduceSub, Nat.reduceLT, Nat.reduceMul, Nat.reduceBEq, Nat.reduceLeDiff, ↓reduceIte, Int.reduceToNat, Nat.reduceGT, Int.reduceLE, Int.reduceLT, Int.reduceGE, Int.reduceGT, Int.reduceEq, Int.reduceNe, reduceCtorEq, b3]
      · refine brK_mk (fun b4 => ?_) (fun b4 => ?_) <;> simp only [go_sem, Nat.reduceEqDiff, Nat.reduceAdd, Nat.reduceSub, Nat.reduceLT, Nat.reduceMul, Nat.reduceBEq, Nat.reduceLeDiff, ↓reduceIte, Int.reduceToNat, Nat.reduceGT, Int.reduceLE, Int.reduceLT, Int.reduceGE, Int.reduceGT, Int.reduceEq, Int.reduceNe, reduceCtorEq, b4]
        · have hj' : j < t.cls.length := by simpa using b3
          have hm' := of_decide_eq_true b4
          obtain ⟨c, hc⟩ := someAt t.cls j hj'
          have hmem := List.mem_of_getElem? hc
          have hwj := upK j _ hj' hlc
          have hlt := cls_lt hmem
          have htk := nodesC_take hc
          simp only [go_sem, Nat.reduceEqDiff, Nat.reduceAdd, Nat.reduceSub, Nat.reduceLT, Nat.reduceMul, Nat.reduceBEq, Nat.reduceLeDiff, ↓reduceIte, Int.reduceToNat, Nat.reduceGT, Int.reduceLE, Int.reduceLT, Int.reduceGE, Int.reduceGT, Int.reduceEq, Int.reduceNe, reduceCtorEq, mapAt ClauseG.av _ _ _ hc, ClauseG.av, ClauseG.cs_eq]
          have r := hrec c.body (by omega) (m - 1 - nodesA t.args - nodesC (t.cls.take j)) (by omega) (by omega) hp
          simp only [TermG.av, TermG.cs_eq] at r
          refine callX_by r ?_
          rintro r hp1 ⟨rfl, rfl⟩
          simp only [go_sem, Nat.reduceEqDiff, Nat.reduceAdd, Nat.reduceSub, Nat.reduceLT, Nat.reduceMul, Nat.reduceBEq, Nat.reduceLeDiff, ↓reduceIte, Int.reduceToNat, Nat.reduceGT, Int.reduceLE, Int.reduceLT, Int.reduceGE, Int.reduceGT, Int.reduceEq, Int.reduceNe, reduceCtorEq, hwj]
          exact ⟨j + 1, by omega, by omega, le_mkSl rfl (Hp.le_refl _) (by rw [htk]; simp [go_sem, hwj]; omega)⟩
        · have hm' := of_decide_eq_false b4
          have hle := nodesC_take_le t.cls j
          refine max_by (fo := ⟨⟩) (fk := ⟨⟩) (k := .i64) (k' := .i64) (a := ((m - 1 - nodesA t.args - nodesC (t.cls.take j) : Nat) : Int)) (b := 0) (by simp [go_sem]) (by simp [go_sem]) (by simp [go_sem]) ?_
          simp only [go_sem, Nat.reduceEqDiff, Nat.reduceAdd, Nat.reduceSub, Nat.reduceLT, Nat.reduceMul, Nat.reduceBEq, Nat.reduceLeDiff, ↓reduceIte, Int.reduceToNat, Nat.reduceGT, Int.reduceLE, Int.reduceLT, Int.reduceGE, Int.reduceGT, Int.reduceEq, Int.reduceNe, reduceCtorEq]
          exact ret_same ⟨by congr 2; split <;> omega, rfl⟩
      · have e2 : j = t.cls.length := by simp at b3; omega
        subst e2
        rw [List.take_length]
        refine max_by (fo := ⟨⟩) (fk := ⟨⟩) (k := .i64) (k' := .i64) (a := ((m - 1 - nodesA t.args - nodesC t.cls : Nat) : Int)) (b := 0) (by simp [go_sem]) (by simp [go_sem]) (by simp [go_sem]) ?_
        simp only [go_sem, Nat.reduceEqDiff, Nat.reduceAdd, Nat.reduceSub, Nat.reduceLT, Nat.reduceMul, Nat.reduceBEq, Nat.reduceLeDiff, ↓reduceIte, Int.reduceToNat, Nat.reduceGT, Int.reduceLE, Int.reduceLT, Int.reduceGE, Int.reduceGT, Int.reduceEq, Int.reduceNe, reduceCtorEq]
        exact ret_same ⟨by congr 2; split <;> omega, rfl⟩
theorem fits_t_calls (t : TermG) (m : Nat) (hm : m ≤ 4000) (hp : Hp) : ACalls Tryd.prog 14 [t.av, .v (.int .i64 m)] hp (fun r hp' => r = .v (.bool (decide (nodesT t ≤ m))) ∧ hp' = hp) := by
  have hw1 : IntKind.i64.wrap ((m : Int) + 1) = ((m + 1 : Nat) : Int) := IntWalk.i64_in _ (by omega)
  refine acalls_of Tryd.func14 rfl (by decide +kernel) (awp_sound (mu := []) _ _ _ ?_)
  simp only [go_sem, Nat.reduceEqDiff, Nat.reduceAdd, Nat.reduceSub, Nat.reduceLT, Nat.reduceMul, Nat.reduceBEq, Nat.reduceLeDiff, ↓reduceIte, Int.reduceToNat, Nat.reduceGT, Int.reduceLE, Int.reduceLT, Int.reduceGE, Int.reduceGT, Int.reduceEq, Int.reduceNe, reduceCtorEq, TermG.av, TermG.cs_eq, hw1]
  intro q1
  have r := left_calls (nodesT t) t (Nat.le_refl _) (m + 1) (by omega) (by omega) hp
  simp only [TermG.av, TermG.cs_eq] at r
  refine callX_by r ?_
  rintro r hp1 ⟨rfl, rfl⟩
  simp only [go_sem, Nat.reduceEqDiff, Nat.reduceAdd, Nat.reduceSub, Nat.reduceLT, Nat.reduceMul, Nat.reduceBEq, Nat.reduceLeDiff, ↓reduceIte, Int.reduceToNat, Nat.reduceGT, Int.reduceLE, Int.reduceLT, Int.reduceGE, Int.reduceGT, Int.reduceEq, Int.reduceNe, reduceCtorEq]
  exact ret_same ⟨by congr 2; apply decide_eq_decide.2; omega, rfl⟩
end Go.Proofs.YtkoachnlimebaaaDoor
/- The reference of the layer 'term': subterms, nodes and depth. -/
set_option linter.unusedSimpArgs false
set_option linter.unusedVariables false
set_option maxRecDepth 20000
set_option maxHeartbeats 4000000
namespace Go.Proofs.YtkoachnlimebaaaDoor
open Go.AL

theorem ones_terms (l : List TermG) : ((l.map TermG.av).flatMap AV.cells).all AV.one = true := by
  induction l with
  | nil => rfl
  | cons a l ih => rw [List.map_cons, List.flatMap_cons, List.all_append, ih, TermG.av, TermG.cs_eq]; rfl
theorem argsN_len (l : List TermG) : l.length ≤ nodesA l := by
  induction l with
  | nil => simp
  | cons a r ih => rw [nodesA_cons]; have := nodesT_pos a; simp; omega
theorem clsN_len (l : List ClauseG) : l.length ≤ nodesC l := by
  induction l with
  | nil => simp
  | cons a r ih => rw [nodesC_cons]; have := nodesT_pos a.body; simp; omega
end Go.Proofs.YtkoachnlimebaaaDoor
/- The reference of the layer 'term': names, types. -/
set_option linter.unusedSimpArgs false
set_option linter.unusedVariables false
set_option maxRecDepth 20000
set_option maxHeartbeats 4000000
namespace Go.Proofs.YtkoachnlimebaaaDoor
open Go.AL

theorem sameInts_calls (ha hb : Value) (a b : List Int) (hp : Hp) : ACalls Tryd.prog 13 [intsAV ha a, intsAV hb b] hp (fun r hp' => r = .v (.bool (decide (a = b))) ∧ hp' = hp) := by
  refine acalls_fit (callable_of Tryd.func13 (by decide +kernel)) fun hfit => ?_
  have hl : a.length ≤ maxLen := fit_lst hfit.1
  clear hfit
  refine acalls_of Tryd.func13 rfl (by decide +kernel) (awp_sound (mu := []) _ _ _ ?_)
  simp only [go_sem, Nat.reduceEqDiff, Nat.reduceAdd, Nat.reduceSub, Nat.reduceLT, Nat.reduceMul, Nat.reduceBEq, Nat.reduceLeDiff, ↓reduceIte, Int.reduceToNat, Nat.reduceGT, Int.reduceLE, Int.reduceLT, Int.reduceGE, Int.reduceGT, Int.reduceEq, Int.reduceNe, reduceCtorEq, intsAV]
  refine brK_mk (fun b0 => ?_) (fun b0 => ?_) <;> simp only [go_sem, Nat.reduceEqDiff, Nat.reduceAdd, Nat.reduceSub, Nat.reduceLT, Nat.reduceMul, Nat.reduceBEq, Nat.reduceLeDiff, ↓reduceIte, Int.reduceToNat, Nat.reduceGT, Int.reduceLE, Int.reduceLT, Int.reduceGE, Int.reduceGT, Int.reduceEq, Int.reduceNe, reduceCtorEq, b0]
  · have hab : a.length = b.length := by have := of_decide_eq_true b0; omega
    refine aw_loopX 26 (fun k : Nat => [(0, .lst 1 ha (a.map iv)), (1, .lst 1 hb (b.map iv)), (12, .v (.int .i64 a.length)), (13, .v (.int .i64 k))])
      (fun _ => hp) (fun k => k ≤ a.length ∧ a.take k = b.take k) (fun k => a.length - k) 0 ⟨Nat.zero_le _, rfl⟩ (le_mkSl rfl (Hp.le_refl _) (by simp [go_sem])) ?_
    rintro k ⟨hk, hd⟩
    refine awp_sound (mu := []) _ _ _ ?_
    simp only [go_sem, Nat.reduceEqDiff, Nat.reduceAdd, Nat.reduceSub, Nat.reduceLT, Nat.reduceMul, Nat.reduceBEq, Nat.reduceLeDiff, ↓reduceIte, Int.reduceToNat, Nat.reduceGT, Int.reduceLE, Int.reduceLT, Int.reduceGE, Int.reduceGT, Int.reduceEq, Int.reduceNe, reduceCtorEq]
    refine brK_mk (fun b1 => ?_) (fun b1 => ?_) <;> simp only [go_sem, Nat.reduceEqDiff, Nat.reduceAdd, Nat.reduceSub, Nat.reduceLT, Nat.reduceMul, Nat.reduceBEq, Nat.reduceLeDiff, ↓reduceIte, Int.reduceToNat, Nat.reduceGT, Int.reduceLE, Int.reduceLT, Int.reduceGE, Int.reduceGT, Int.reduceEq, Int.reduceNe, reduceCtorEq, b1]
    · have hk' : k < a.length := by simpa using b1
      obtain ⟨x, hx⟩ := someAt a k hk'
      obtain ⟨y, hy⟩ := someAt b k (by omega)
      have hwu := upK k _ hk' hl
      refine draw_by (mu := []) (fun _ => True) (.take 0 (.take 1 (.take 2 (.take 3 (.take 4 (.take 5 (.take 6 (.take 7 (.take 8 (.done)))))))))) (by decide +kernel) trivial (by decide +kernel) (by decide +kernel) ?_
      simp only [go_sem, Nat.reduceEqDiff, Nat.reduceAdd, Nat.reduceSub, Nat.reduceLT, Nat.reduceMul, Nat.reduceBEq, Nat.reduceLeDiff, ↓reduceIte, Int.reduceToNat, Nat.reduceGT, Int.reduceLE, Int.reduceLT, Int.reduceGE, Int.reduceGT, Int.reduceEq, Int.reduceNe, reduceCtorEq, mapAt iv _ _ _ hx, mapAt iv _ _ _ hy, iv]
      refine brK_mk (fun b2 => ?_) (fun b2 => ?_) <;> simp only [go_sem, Nat.reduceEqDiff, Nat.reduceAdd, Nat.reduceSub, Nat.reduceLT, Nat.reduceMul, Nat.reduceBEq, Nat.reduceLeDiff, ↓reduceIte, Int.reduceToNat, Nat.reduceGT, Int.reduceLE, Int.reduceLT, Int.reduceGE, Int.reduceGT, Int.reduceEq, Int.reduceNe, reduceCtorEq, b2, hwu]
      · have e := of_decide_eq_true b2
        subst e
        exact ⟨k + 1, by omega, ⟨by omega, by rw [List.take_add_one, List.take_add_one, hx, hy, hd]⟩, le_mkSl rfl (Hp.le_refl _) (by simp [go_sem, hwu])⟩
      · have e := of_decide_eq_false b2
        exact ret_same ⟨by rw [decide_eq_false]; rintro rfl; rw [hx] at hy; exact e (Option.some.inj hy), rfl⟩
    · have e : k = a.length := by simp at b1; omega
      subst e
      rw [List.take_length, hab, List.take_length] at hd
      exact ret_same ⟨by rw [decide_eq_true hd], rfl⟩
  · exact ret_same ⟨by rw [decide_eq_false]; rintro rfl; exact of_decide_eq_false b0 rfl, rfl⟩
end Go.Proofs.YtkoachnlimebaaaDoor
