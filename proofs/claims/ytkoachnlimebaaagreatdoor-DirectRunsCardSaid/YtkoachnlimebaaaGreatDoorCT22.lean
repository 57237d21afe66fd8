/- The reference of the layer 'term': nodes and depth. -/
import Derived.Test.YtkoachnlimebaaaGreatDoorCT19
import Derived.Test.YtkoachnlimebaaaGreatDoorCAL34
set_option linter.unusedSimpArgs false
set_option linter.unusedVariables false
set_option maxRecDepth 20000
set_option maxHeartbeats 4000000
namespace Go.Proofs.YtkoachnlimebaaaGreatDoor
open Go.AL

theorem nodesA_snoc (l : List TermG) (a : TermG) : nodesA (l ++ [a]) = nodesA l + nodesT a := by
  induction l with
  | nil => rw [List.nil_append, nodesA_cons, nodesA]; omega
  | cons b r ih => rw [List.cons_append, nodesA_cons, nodesA_cons, ih]; omega
theorem nodesC_snoc (l : List ClauseG) (a : ClauseG) : nodesC (l ++ [a]) = nodesC l + nodesT a.body := by
  induction l with
  | nil => rw [List.nil_append, nodesC_cons, nodesC]; omega
  | cons b r ih => rw [List.cons_append, nodesC_cons, nodesC_cons, ih]; omega
theorem nodesA_take {l : List TermG} {k : Nat} {a : TermG} (h : l[k]? = some a) : nodesA (l.take (k + 1)) = nodesA (l.take k) + nodesT a := by rw [List.take_add_one, h, ← nodesA_snoc]; rfl
theorem nodesC_take {l : List ClauseG} {k : Nat} {a : ClauseG} (h : l[k]? = some a) : nodesC (l.take (k + 1)) = nodesC (l.take k) + nodesT a.body := by rw [List.take_add_one, h, ← nodesC_snoc]; rfl
theorem nodesA_take_le (l : List TermG) (k : Nat) : nodesA (l.take k) ≤ nodesA l := by
  induction l generalizing k with
  | nil => simp
  | cons b r ih => cases k with
    | zero => simp [nodesA]
    | succ k => rw [List.take_succ_cons, nodesA_cons, nodesA_cons]; have := ih k; omega
theorem nodesC_take_le (l : List ClauseG) (k : Nat) : nodesC (l.take k) ≤ nodesC l := by
  induction l generalizing k with
  | nil => simp
  | cons b r ih => cases k with
    | zero => simp [nodesC]
    | succ k => rw [List.take_succ_cons, nodesC_cons, nodesC_cons]; have := ih k; omega
theorem fit_term {t : TermG} (h : t.av.fit) : t.args.length ≤ maxLen ∧ t.cls.length ≤ maxLen := by
  simp only [TermG.av, TermG.cs_eq, AV.fit, AV.fits] at h
  exact ⟨fit_lst (f := TermG.av) (sz := 6) (h := t.ha) (l := t.args) (by simpa [AV.fit] using h.2.2.2.2.1), fit_lst (f := ClauseG.av) (sz := 7) (h := t.hc) (l := t.cls) (by simpa [AV.fit] using h.2.2.2.2.2.1)⟩
theorem left_calls : ∀ (N : Nat) (t : TermG), nodesT t ≤ N → ∀ (m : Nat), 1 ≤ m → m ≤ 5000 → ∀ (hp : Hp),
    ACalls Tryz.prog 74 [t.av, .v (.int .i64 m)] hp (fun r hp' => r = .v (.int .i64 (m - nodesT t : Nat)) ∧ hp' = hp)
  | 0, t, hN, _, _, _, _ => by have := nodesT_pos t; omega
  | N + 1, t, hN, m, hm1, hm2, hp => by
    have hrec := left_calls N
    refine acalls_fit (callable_of Tryz.func74 (by decide +kernel)) fun hfit => ?_
    obtain ⟨hla, hlc⟩ := fit_term hfit.1
    clear hfit
    have hnt := nodesT_eq t
    have hw1 : IntKind.i64.wrap ((m : Int) - 1) = ((m - 1 : Nat) : Int) := by rw [show (m : Int) - 1 = ((m - 1 : Nat) : Int) by omega]; exact IntWalk.i64_in _ (by omega)
    refine acalls_of Tryz.func74 rfl (by decide +kernel) (awp_sound (mu := []) _ _ _ ?_)
    simp only [go_sem, Nat.reduceEqDiff, Nat.reduceAdd, Nat.reduceSub, Nat.reduceLT, Nat.reduceBEq, Nat.reduceLeDiff, ↓reduceIte, Int.reduceToNat, Int.reduceLE, Int.reduceLT, Int.reduceEq, reduceCtorEq, TermG.av, TermG.cs_eq, hw1]
    intro q1
    refine aw_loopX 48 (fun k : Nat => [(1, .v (.int .i64 (m - 1 - nodesA (t.args.take k) : Nat))), (2, .ref q1 [.v (.int .i64 t.op), .v (.int .i64 t.n), .v (.string (bs t.name)), .v (.int .i64 t.ty), .lst 6 t.ha (t.args.map TermG.av), .lst 7 t.hc (t.cls.map ClauseG.av)]), (5, .v (.int .i64 k))])
      (fun _ => hp) (fun k => k ≤ t.args.length) (fun k => t.args.length - k) 0
      (Nat.zero_le _) (le_mkSl rfl (Hp.le_refl _) (by simp [go_sem, nodesA])) ?_
    intro k hk
    refine awp_sound (mu := []) _ _ _ ?_
    simp only [go_sem, Nat.reduceEqDiff, Nat.reduceAdd, Nat.reduceSub, Nat.reduceLT, Nat.reduceBEq, Nat.reduceLeDiff, ↓reduceIte, Int.reduceToNat, Int.reduceLE, Int.reduceLT, Int.reduceEq, reduceCtorEq]
    refine brK_mk (fun b1 => ?_) (fun b1 => ?_) <;> simp only [go_sem, Nat.reduceEqDiff, Nat.reduceAdd, Nat.reduceSub, Nat.reduceLT, Nat.reduceBEq, Nat.reduceLeDiff, ↓reduceIte, Int.reduceToNat, Int.reduceLE, Int.reduceLT, Int.reduceEq, reduceCtorEq, b1]
    · refine brK_mk (fun b2 => ?_) (fun b2 => ?_) <;> simp only [go_sem, Nat.reduceEqDiff, Nat.reduceAdd, Nat.reduceSub, Nat.reduceLT, Nat.reduceBEq, Nat.reduceLeDiff, ↓reduceIte, Int.reduceToNat, Int.reduceLE, Int.reduceLT, Int.reduceEq, reduceCtorEq, b2]
      · have hk' : k < t.args.length := by simpa using b1
        have hm' := of_decide_eq_true b2
        obtain ⟨a, ha⟩ := someAt t.args k hk'
        have hmem := List.mem_of_getElem? ha
        have hwk := upK k _ hk' hla
        have hlt := args_lt hmem
        have htk := nodesA_take ha
        simp only [go_sem, Nat.reduceEqDiff, Nat.reduceAdd, Nat.reduceSub, Nat.reduceLT, Nat.reduceBEq, Nat.reduceLeDiff, ↓reduceIte, Int.reduceToNat, Int.reduceLE, Int.reduceLT, Int.reduceEq, reduceCtorEq, mapAt TermG.av _ _ _ ha, TermG.av, TermG.cs_eq]
        have r := hrec a (by omega) (m - 1 - nodesA (t.args.take k)) (by omega) (by omega) hp
        simp only [TermG.av, TermG.cs_eq] at r
        refine callX_by r ?_
        rintro r hp1 ⟨rfl, rfl⟩
        simp only [go_sem, Nat.reduceEqDiff, Nat.reduceAdd, Nat.reduceSub, Nat.reduceLT, Nat.reduceBEq, Nat.reduceLeDiff, ↓reduceIte, Int.reduceToNat, Int.reduceLE, Int.reduceLT, Int.reduceEq, reduceCtorEq, hwk]
        exact ⟨k + 1, by omega, by omega, le_mkSl rfl (Hp.le_refl _) (by rw [htk]; simp [go_sem, hwk]; omega)⟩
      · have hm' := of_decide_eq_false b2
        have hle := nodesA_take_le t.args k
        have hz : m - 1 - nodesA (t.args.take k) = m - 1 - nodesA t.args := by omega
        refine aw_loopX 48 (fun j : Nat => [(1, .v (.int .i64 (m - 1 - nodesA t.args - nodesC (t.cls.take j) : Nat))), (2, .ref q1 [.v (.int .i64 t.op), .v (.int .i64 t.n), .v (.string (bs t.name)), .v (.int .i64 t.ty), .lst 6 t.ha (t.args.map TermG.av), .lst 7 t.hc (t.cls.map ClauseG.av)]), (6, .v (.int .i64 j))])
          (fun _ => hp) (fun j => j ≤ t.cls.length) (fun j => t.cls.length - j) 0
          (Nat.zero_le _) (le_mkSl rfl (Hp.le_refl _) (by simp [go_sem, nodesC, hz])) ?_
        intro j hj
        refine awp_sound (mu := []) _ _ _ ?_
        simp only [go_sem, Nat.reduceEqDiff, Nat.reduceAdd, Nat.reduceSub, Nat.reduceLT, Nat.reduceBEq, Nat.reduceLeDiff, ↓reduceIte, Int.reduceToNat, Int.reduceLE, Int.reduceLT, Int.reduceEq, reduceCtorEq]
        refine brK_mk (fun b3 => ?_) (fun b3 => ?_) <;> simp only [go_sem, Nat.reduceEqDiff, Nat.reduceAdd, Nat.reduceSub, Nat.reduceLT, Nat.reduceBEq, Nat.reduceLeDiff, ↓reduceIte, Int.reduceToNat, Int.reduceLE, Int.reduceLT, Int.reduceEq, reduceCtorEq, b3]
        · refine brK_mk (fun b4 => ?_) (fun b4 => ?_) <;> simp only [go_sem, Nat.reduceEqDiff, Nat.reduceAdd, Nat.reduceSub, Nat.reduceLT, Nat.reduceBEq, Nat.reduceLeDiff, ↓reduceIte, Int.reduceToNat, Int.reduceLE, Int.reduceLT, Int.reduceEq, reduceCtorEq, b4]
          · have hj' : j < t.cls.length := by simpa using b3
            have hm' := of_decide_eq_true b4
            obtain ⟨c, hc⟩ := someAt t.cls j hj'
            have hmem := List.mem_of_getElem? hc
            have hwj := upK j _ hj' hlc
            have hlt := cls_lt hmem
            have htk := nodesC_take hc
            simp only [go_sem, Nat.reduceEqDiff, Nat.reduceAdd, Nat.reduceSub, Nat.reduceLT, Nat.reduceBEq, Nat.reduceLeDiff, ↓reduceIte, Int.reduceToNat, Int.reduceLE, Int.reduceLT, Int.reduceEq, reduceCtorEq, mapAt ClauseG.av _ _ _ hc, ClauseG.av, ClauseG.cs_eq]
            have r := hrec c.body (by omega) (m - 1 - nodesA t.args - nodesC (t.cls.take j)) (by omega) (by omega) hp
            simp only [TermG.av, TermG.cs_eq] at r
            refine callX_by r ?_
            rintro r hp1 ⟨rfl, rfl⟩
            simp only [go_sem, Nat.reduceEqDiff, Nat.reduceAdd, Nat.reduceSub, Nat.reduceLT, Nat.reduceBEq, Nat.reduceLeDiff, ↓reduceIte, Int.reduceToNat, Int.reduceLE, Int.reduceLT, Int.reduceEq, reduceCtorEq, hwj]
            exact ⟨j + 1, by omega, by omega, le_mkSl rfl (Hp.le_refl _) (by rw [htk]; simp [go_sem, hwj]; omega)⟩
          · have hm' := of_decide_eq_false b4
            have hle := nodesC_take_le t.cls j
            refine max_by (fo := ⟨⟩) (fk := ⟨⟩) (k := .i64) (k' := .i64) (a := ((m - 1 - nodesA t.args - nodesC (t.cls.take j) : Nat) : Int)) (b := 0) (by simp [go_sem]) (by simp [go_sem]) (by simp [go_sem]) ?_
            simp only [go_sem, Nat.reduceEqDiff, Nat.reduceAdd, Nat.reduceSub, Nat.reduceLT, Nat.reduceBEq, Nat.reduceLeDiff, ↓reduceIte, Int.reduceToNat, Int.reduceLE, Int.reduceLT, Int.reduceEq, reduceCtorEq]
            exact ret_same ⟨by congr 2; split <;> omega, rfl⟩
        · have e2 : j = t.cls.length := by simp at b3; omega
          subst e2
          rw [List.take_length]
          refine max_by (fo := ⟨⟩) (fk := ⟨⟩) (k := .i64) (k' := .i64) (a := ((m - 1 - nodesA t.args - nodesC t.cls : Nat) : Int)) (b := 0) (by simp [go_sem]) (by simp [go_sem]) (by simp [go_sem]) ?_
          simp only [go_sem, Nat.reduceEqDiff, Nat.reduceAdd, Nat.reduceSub, Nat.reduceLT, Nat.reduceBEq, Nat.reduceLeDiff, ↓reduceIte, Int.reduceToNat, Int.reduceLE, Int.reduceLT, Int.reduceEq, reduceCtorEq]
          exact ret_same ⟨by congr 2; split <;> omega, rfl⟩
    · have hz : m - 1 - nodesA (t.args.take k) = m - 1 - nodesA t.args := by
        have e2 : k = t.args.length := by simp at b1; omega
        rw [e2, List.take_length]
      refine aw_loopX 48 (fun j : Nat => [(1, .v (.int .i64 (m - 1 - nodesA t.args - nodesC (t.cls.take j) : Nat))), (2, .ref q1 [.v (.int .i64 t.op), .v (.int .i64 t.n), .v (.string (bs t.name)), .v (.int .i64 t.ty), .lst 6 t.ha (t.args.map TermG.av), .lst 7 t.hc (t.cls.map ClauseG.av)]), (6, .v (.int .i64 j))])
        (fun _ => hp) (fun j => j ≤ t.cls.length) (fun j => t.cls.length - j) 0
        (Nat.zero_le _) (le_mkSl rfl (Hp.le_refl _) (by simp [go_sem, nodesC, hz])) ?_
      intro j hj
      refine awp_sound (mu := []) _ _ _ ?_
      simp only [go_sem, Nat.reduceEqDiff, Nat.reduceAdd, Nat.reduceSub, Nat.reduceLT, Nat.reduceBEq, Nat.reduceLeDiff, ↓reduceIte, Int.reduceToNat, Int.reduceLE, Int.reduceLT, Int.reduceEq, reduceCtorEq]
      refine brK_mk (fun b3 => ?_) (fun b3 => ?_) <;> simp only [go_sem, Nat.reduceEqDiff, Nat.reduceAdd, Nat.reduceSub, Nat.reduceLT, Nat.reduceBEq, Nat.reduceLeDiff, ↓reduceIte, Int.reduceToNat, Int.reduceLE, Int.reduceLT, Int.reduceEq, reduceCtorEq, b3]
      · refine brK_mk (fun b4 => ?_) (fun b4 => ?_) <;> simp only [go_sem, Nat.reduceEqDiff, Nat.reduceAdd, Nat.reduceSub, Nat.reduceLT, Nat.reduceBEq, Nat.reduceLeDiff, ↓reduceIte, Int.reduceToNat, Int.reduceLE, Int.reduceLT, Int.reduceEq, reduceCtorEq, b4]
        · have hj' : j < t.cls.length := by simpa using b3
          have hm' := of_decide_eq_true b4
          obtain ⟨c, hc⟩ := someAt t.cls j hj'
          have hmem := List.mem_of_getElem? hc
          have hwj := upK j _ hj' hlc
          have hlt := cls_lt hmem
          have htk := nodesC_take hc
          simp only [go_sem, Nat.reduceEqDiff, Nat.reduceAdd, Nat.reduceSub, Nat.reduceLT, Nat.reduceBEq, Nat.reduceLeDiff, ↓reduceIte, Int.reduceToNat, Int.reduceLE, Int.reduceLT, Int.reduceEq, reduceCtorEq, mapAt ClauseG.av _ _ _ hc, ClauseG.av, ClauseG.cs_eq]
          have r := hrec c.body (by omega) (m - 1 - nodesA t.args - nodesC (t.cls.take j)) (by omega) (by omega) hp
          simp only [TermG.av, TermG.cs_eq] at r
          refine callX_by r ?_
          rintro r hp1 ⟨rfl, rfl⟩
          simp only [go_sem, Nat.reduceEqDiff, Nat.reduceAdd, Nat.reduceSub, Nat.reduceLT, Nat.reduceBEq, Nat.reduceLeDiff, ↓reduceIte, Int.reduceToNat, Int.reduceLE, Int.reduceLT, Int.reduceEq, reduceCtorEq, hwj]
          exact ⟨j + 1, by omega, by omega, le_mkSl rfl (Hp.le_refl _) (by rw [htk]; simp [go_sem, hwj]; omega)⟩
        · have hm' := of_decide_eq_false b4
          have hle := nodesC_take_le t.cls j
          refine max_by (fo := ⟨⟩) (fk := ⟨⟩) (k := .i64) (k' := .i64) (a := ((m - 1 - nodesA t.args - nodesC (t.cls.take j) : Nat) : Int)) (b := 0) (by simp [go_sem]) (by simp [go_sem]) (by simp [go_sem]) ?_
          simp only [go_sem, Nat.reduceEqDiff, Nat.reduceAdd, Nat.reduceSub, Nat.reduceLT, Nat.reduceBEq, Nat.reduceLeDiff, ↓reduceIte, Int.reduceToNat, Int.reduceLE, Int.reduceLT, Int.reduceEq, reduceCtorEq]
          exact ret_same ⟨by congr 2; split <;> omega, rfl⟩
      · have e2 : j = t.cls.length := by simp at b3; omega
        subst e2
        rw [List.take_length]
        refine max_by (fo := ⟨⟩) (fk := ⟨⟩) (k := .i64) (k' := .i64) (a := ((m - 1 - nodesA t.args - nodesC t.cls : Nat) : Int)) (b := 0) (by simp [go_sem]) (by simp [go_sem]) (by simp [go_sem]) ?_
        simp only [go_sem, Nat.reduceEqDiff, Nat.reduceAdd, Nat.reduceSub, Nat.reduceLT, Nat.reduceBEq, Nat.reduceLeDiff, ↓reduceIte, Int.reduceToNat, Int.reduceLE, Int.reduceLT, Int.reduceEq, reduceCtorEq]
        exact ret_same ⟨by congr 2; split <;> omega, rfl⟩
theorem fits_t_calls (t : TermG) (m : Nat) (hm : m ≤ 4000) (hp : Hp) : ACalls Tryz.prog 31 [t.av, .v (.int .i64 m)] hp (fun r hp' => r = .v (.bool (decide (nodesT t ≤ m))) ∧ hp' = hp) := by
  have hw1 : IntKind.i64.wrap ((m : Int) + 1) = ((m + 1 : Nat) : Int) := IntWalk.i64_in _ (by omega)
  refine acalls_of Tryz.func31 rfl (by decide +kernel) (awp_sound (mu := []) _ _ _ ?_)
  simp only [go_sem, Nat.reduceEqDiff, Nat.reduceAdd, Nat.reduceSub, Nat.reduceLT, Nat.reduceBEq, Nat.reduceLeDiff, ↓reduceIte, Int.reduceToNat, Int.reduceLE, Int.reduceLT, Int.reduceEq, reduceCtorEq, TermG.av, TermG.cs_eq, hw1]
  intro q1
  have r := left_calls (nodesT t) t (Nat.le_refl _) (m + 1) (by omega) (by omega) hp
  simp only [TermG.av, TermG.cs_eq] at r
  refine callX_by r ?_
  rintro r hp1 ⟨rfl, rfl⟩
  simp only [go_sem, Nat.reduceEqDiff, Nat.reduceAdd, Nat.reduceSub, Nat.reduceLT, Nat.reduceBEq, Nat.reduceLeDiff, ↓reduceIte, Int.reduceToNat, Int.reduceLE, Int.reduceLT, Int.reduceEq, reduceCtorEq]
  exact ret_same ⟨by congr 2; apply decide_eq_decide.2; omega, rfl⟩
end Go.Proofs.YtkoachnlimebaaaGreatDoor
/- The reference of the layer 'term': subterms, nodes and depth. -/
set_option linter.unusedSimpArgs false
set_option linter.unusedVariables false
set_option maxRecDepth 20000
set_option maxHeartbeats 4000000
namespace Go.Proofs.YtkoachnlimebaaaGreatDoor
open Go.AL

def kids (t : TermG) : List TermG := t.args ++ t.cls.map ClauseG.body
theorem ones_terms (l : List TermG) : ((l.map TermG.av).flatMap AV.cells).all AV.one = true := by
  induction l with
  | nil => rfl
  | cons a l ih => rw [List.map_cons, List.flatMap_cons, List.all_append, ih, TermG.av, TermG.cs_eq]; rfl
theorem argsN_len (l : List TermG) : l.length ≤ nodesA l := by
  induction l with
  | nil => simp
  | cons a r ih => rw [nodesA_cons]; have := nodesT_pos a; simp; omega
theorem clsN_len (l : List ClauseG) : l.length ≤ nodesC l := by
  induction l with
  | nil => simp
  | cons a r ih => rw [nodesC_cons]; have := nodesT_pos a.body; simp; omega
theorem nodes_map (l : List ClauseG) : nodesA (l.map ClauseG.body) = nodesC l := by
  induction l with
  | nil => rw [List.map_nil, nodesA, nodesC]
  | cons a r ih => rw [List.map_cons, nodesA_cons, nodesC_cons, ih]
theorem nodesA_append (a b : List TermG) : nodesA (a ++ b) = nodesA a + nodesA b := by
  induction a with
  | nil => rw [List.nil_append, nodesA]; omega
  | cons x r ih => rw [List.cons_append, nodesA_cons, nodesA_cons, ih]; omega
theorem nodes_kids (t : TermG) : nodesT t = 1 + nodesA (kids t) := by rw [nodesT_eq, kids, nodesA_append, nodes_map]; omega
theorem depth_map (l : List ClauseG) : depthA (l.map ClauseG.body) = depthC l := by
  induction l with
  | nil => rw [List.map_nil, depthA, depthC]
  | cons a r ih => rw [List.map_cons, depthA, depthC, depthB_eq, ih]
theorem depthA_append (a b : List TermG) : depthA (a ++ b) = max (depthA a) (depthA b) := by
  induction a with
  | nil => rw [List.nil_append, depthA]; omega
  | cons x r ih => rw [List.cons_append, depthA, depthA, ih]; omega
theorem depth_kids (t : TermG) : depthT t = depthA (kids t) + 1 := by rw [depthT_eq, kids, depthA_append, depth_map]
theorem kids_lt {t a : TermG} (h : a ∈ kids t) : nodesT a < nodesT t := by
  have := nodesA_mem h; rw [nodes_kids t]; omega
theorem children_calls (t : TermG) (hN : nodesT t ≤ 5000) (hp : Hp) : ACalls Tryz.prog 146 [t.av] hp (fun r hp' => ∃ h, r = termsAV h (kids t) ∧ hp' = hp.setSp ((64, 6, h) :: hp.sp)) := by
  have hnt := nodesT_eq t
  have hla := argsN_len t.args
  have hlc := clsN_len t.cls
  refine acalls_of Tryz.func146 rfl (by decide +kernel) (awp_sound (mu := []) _ _ _ ?_)
  simp only [go_sem, Nat.reduceEqDiff, Nat.reduceAdd, Nat.reduceSub, Nat.reduceLT, Nat.reduceMul, Nat.reduceBEq, Nat.reduceLeDiff, ↓reduceIte, Int.reduceToNat, Nat.reduceGT, Int.reduceLE, Int.reduceLT, Int.reduceGE, Int.reduceGT, Int.reduceEq, Int.reduceNe, reduceCtorEq, TermG.av, TermG.cs_eq]
  intro q1
  refine append0_by (a := .v (.slice none 0 0)) (b := .lst 6 t.ha (t.args.map TermG.av)) (h2 := t.ha) (ys := t.args.map TermG.av) Tryz.k61 Tryz.s64 Tryz.y64 Tryz.z64 rfl (by decide)
    (by simp [go_sem]) (Cast.nil 6) (by simp [go_sem]) (Cast.refl _) (ones_terms _) (by simp [maxLen]; omega) (by simp; omega) (by simp [go_sem]) (fun h3 => ?_)
  simp only [go_sem, Nat.reduceEqDiff, Nat.reduceAdd, Nat.reduceSub, Nat.reduceLT, Nat.reduceMul, Nat.reduceBEq, Nat.reduceLeDiff, ↓reduceIte, Int.reduceToNat, Nat.reduceGT, Int.reduceLE, Int.reduceLT, Int.reduceGE, Int.reduceGT, Int.reduceEq, Int.reduceNe, reduceCtorEq]
  refine aw_loopX 23 (fun x : Nat × Value => [(3, termsAV x.2 (t.args ++ (t.cls.take x.1).map ClauseG.body)), (10, .lst 7 t.hc (t.cls.map ClauseG.av)), (11, .v (.int .i64 t.cls.length)), (12, .v (.int .i64 x.1))])
    (fun x => hp.setSp ((64, 6, x.2) :: hp.sp)) (fun x => x.1 ≤ t.cls.length) (fun x => t.cls.length - x.1) (0, h3) (Nat.zero_le _) (le_mkSl rfl (Hp.le_refl _) (by simp [go_sem, termsAV])) ?_
  rintro ⟨k, h4⟩ hk
  simp only at hk
  refine awp_sound (mu := []) _ _ _ ?_
  simp only [go_sem, Nat.reduceEqDiff, Nat.reduceAdd, Nat.reduceSub, Nat.reduceLT, Nat.reduceMul, Nat.reduceBEq, Nat.reduceLeDiff, ↓reduceIte, Int.reduceToNat, Nat.reduceGT, Int.reduceLE, Int.reduceLT, Int.reduceGE, Int.reduceGT, Int.reduceEq, Int.reduceNe, reduceCtorEq, termsAV]
  refine brK_mk (fun b1 => ?_) (fun b1 => ?_) <;> simp only [go_sem, Nat.reduceEqDiff, Nat.reduceAdd, Nat.reduceSub, Nat.reduceLT, Nat.reduceMul, Nat.reduceBEq, Nat.reduceLeDiff, ↓reduceIte, Int.reduceToNat, Nat.reduceGT, Int.reduceLE, Int.reduceLT, Int.reduceGE, Int.reduceGT, Int.reduceEq, Int.reduceNe, reduceCtorEq, b1]
  · have hk' : k < t.cls.length := by simpa using b1
    obtain ⟨c, hc⟩ := someAt t.cls k hk'
    have hwk : IntKind.i64.wrap ((k : Int) + 1) = ((k + 1 : Nat) : Int) := IntWalk.i64_in _ (by omega)
    have htk : (t.cls.take (k + 1)).map ClauseG.body = (t.cls.take k).map ClauseG.body ++ [c.body] := by rw [List.take_add_one, hc]; simp
    simp only [go_sem, Nat.reduceEqDiff, Nat.reduceAdd, Nat.reduceSub, Nat.reduceLT, Nat.reduceMul, Nat.reduceBEq, Nat.reduceLeDiff, ↓reduceIte, Int.reduceToNat, Nat.reduceGT, Int.reduceLE, Int.reduceLT, Int.reduceGE, Int.reduceGT, Int.reduceEq, Int.reduceNe, reduceCtorEq, mapAt ClauseG.av _ _ _ hc, ClauseG.av, ClauseG.cs_eq]
    intro v hv
    have hds := fun T cs => Hp.del_set _ _ T cs hv.1
    simp only [go_sem, Nat.reduceEqDiff, Nat.reduceAdd, Nat.reduceSub, Nat.reduceLT, Nat.reduceMul, Nat.reduceBEq, Nat.reduceLeDiff, ↓reduceIte, Int.reduceToNat, Nat.reduceGT, Int.reduceLE, Int.reduceLT, Int.reduceGE, Int.reduceGT, Int.reduceEq, Int.reduceNe, reduceCtorEq, hds]
    refine ⟨rfl, by simp, fun hd => ?_⟩
    refine append_by (a := termsAV h4 (t.args ++ (t.cls.take k).map ClauseG.body)) (b := .lst 6 hd [c.body.av]) (l1 := [(64, 6, hd)]) (l2 := hp.sp) (h := h4) (h2 := hd) Tryz.k61 Tryz.s64 Tryz.y64 Tryz.z64 rfl (by decide)
      (by simp [go_sem, termsAV]) (Cast.refl _) (by simp [go_sem, TermG.av, TermG.cs_eq]) (Cast.refl _) (by simp [go_sem]) (ones_terms [c.body]) (by simp [maxLen]; omega) (by simp; omega) (by simp [go_sem]) (fun h5 => ?_)
    simp only [go_sem, Nat.reduceEqDiff, Nat.reduceAdd, Nat.reduceSub, Nat.reduceLT, Nat.reduceMul, Nat.reduceBEq, Nat.reduceLeDiff, ↓reduceIte, Int.reduceToNat, Nat.reduceGT, Int.reduceLE, Int.reduceLT, Int.reduceGE, Int.reduceGT, Int.reduceEq, Int.reduceNe, reduceCtorEq, hwk]
    exact ⟨(k + 1, h5), by simp only; omega, by simp only; omega, le_mkSl rfl ⟨fun _ _ h => h, fun _ _ h => h, List.sublist_cons_self _ _, fun _ h => h⟩ (by rw [htk]; simp [go_sem, hwk, termsAV])⟩
  · have e2 : k = t.cls.length := by simp at b1; omega
    subst e2
    rw [List.take_length]
    exact ret_same ⟨h4, rfl, rfl⟩
mutual
theorem depth_nodes : ∀ t : TermG, depthT t ≤ nodesT t
  | .mk op n name ty ha args hc cls => by
    rw [depthT, nodesT]
    have h1 := depth_nodesA args
    have h2 := depth_nodesC cls
    omega
theorem depth_nodesA : ∀ l : List TermG, depthA l ≤ nodesA l
  | [] => by rw [depthA, nodesA]; exact Nat.le_refl _
  | a :: r => by
    rw [depthA, nodesA]
    have h1 := depth_nodes a
    have h2 := depth_nodesA r
    omega
theorem depth_nodesC : ∀ l : List ClauseG, depthC l ≤ nodesC l
  | [] => by rw [depthC, nodesC]; exact Nat.le_refl _
  | a :: r => by
    rw [depthC, nodesC]
    have h1 := depth_nodesB a
    have h2 := depth_nodesC r
    omega
theorem depth_nodesB : ∀ c : ClauseG, depthB c ≤ nodesB c
  | .mk hn names b => by rw [depthB, nodesB]; exact depth_nodes b
end
theorem nodesN_calls : ∀ (N : Nat) (t : TermG), nodesT t ≤ N → N ≤ 5000 → ∀ (hp : Hp), ACalls Tryz.prog 91 [t.av] hp (fun r hp' => r = .v (.int .i64 (nodesT t)) ∧ hp' = hp)
  | 0, t, hN, _, _ => by have := nodesT_pos t; omega
  | N + 1, t, hN, hN2, hp => by
    have hrec := nodesN_calls N
    have hnt := nodes_kids t
    have hkl := argsN_len (kids t)
    refine acalls_of Tryz.func91 rfl (by decide +kernel) (awp_sound (mu := []) _ _ _ ?_)
    simp only [go_sem, Nat.reduceEqDiff, Nat.reduceAdd, Nat.reduceSub, Nat.reduceLT, Nat.reduceMul, Nat.reduceBEq, Nat.reduceLeDiff, ↓reduceIte, Int.reduceToNat, Nat.reduceGT, Int.reduceLE, Int.reduceLT, Int.reduceGE, Int.reduceGT, Int.reduceEq, Int.reduceNe, reduceCtorEq, TermG.av, TermG.cs_eq]
    intro q1
    have r := children_calls t (by omega) hp
    simp only [TermG.av, TermG.cs_eq, termsAV] at r
    refine callX_by r ?_
    rintro r hp1 ⟨h7, rfl, rfl⟩
    simp only [go_sem, Nat.reduceEqDiff, Nat.reduceAdd, Nat.reduceSub, Nat.reduceLT, Nat.reduceMul, Nat.reduceBEq, Nat.reduceLeDiff, ↓reduceIte, Int.reduceToNat, Nat.reduceGT, Int.reduceLE, Int.reduceLT, Int.reduceGE, Int.reduceGT, Int.reduceEq, Int.reduceNe, reduceCtorEq]
    refine aw_loopX 19 (fun k : Nat => [(3, .v (.int .i64 (1 + nodesA ((kids t).take k) : Nat))), (7, .lst 6 h7 ((kids t).map TermG.av)), (8, .v (.int .i64 (kids t).length)), (9, .v (.int .i64 k))])
      (fun _ => hp) (fun k => k ≤ (kids t).length) (fun k => (kids t).length - k) 0 (Nat.zero_le _) (le_mkSl rfl (Hp.le_addSp _ _) (by simp [go_sem, nodesA])) ?_
    intro k hk
    refine awp_sound (mu := []) _ _ _ ?_
    simp only [go_sem, Nat.reduceEqDiff, Nat.reduceAdd, Nat.reduceSub, Nat.reduceLT, Nat.reduceMul, Nat.reduceBEq, Nat.reduceLeDiff, ↓reduceIte, Int.reduceToNat, Nat.reduceGT, Int.reduceLE, Int.reduceLT, Int.reduceGE, Int.reduceGT, Int.reduceEq, Int.reduceNe, reduceCtorEq]
    refine brK_mk (fun b1 => ?_) (fun b1 => ?_) <;> simp only [go_sem, Nat.reduceEqDiff, Nat.reduceAdd, Nat.reduceSub, Nat.reduceLT, Nat.reduceMul, Nat.reduceBEq, Nat.reduceLeDiff, ↓reduceIte, Int.reduceToNat, Nat.reduceGT, Int.reduceLE, Int.reduceLT, Int.reduceGE, Int.reduceGT, Int.reduceEq, Int.reduceNe, reduceCtorEq, b1]
    · have hk' : k < (kids t).length := by simpa using b1
      obtain ⟨a, ha⟩ := someAt (kids t) k hk'
      have hmem := List.mem_of_getElem? ha
      have hwk : IntKind.i64.wrap ((k : Int) + 1) = ((k + 1 : Nat) : Int) := IntWalk.i64_in _ (by omega)
      have hlt := kids_lt hmem
      have htk := nodesA_take ha
      have hle := nodesA_take_le (kids t) (k + 1)
      have hws : IntKind.i64.wrap (((1 + nodesA ((kids t).take k) : Nat) : Int) + (nodesT a : Int)) = ((1 + nodesA ((kids t).take (k + 1)) : Nat) : Int) := by
        rw [htk, show ((1 + nodesA ((kids t).take k) : Nat) : Int) + (nodesT a : Int) = ((1 + (nodesA ((kids t).take k) + nodesT a) : Nat) : Int) by omega]; exact IntWalk.i64_in _ (by omega)
      simp only [go_sem, Nat.reduceEqDiff, Nat.reduceAdd, Nat.reduceSub, Nat.reduceLT, Nat.reduceMul, Nat.reduceBEq, Nat.reduceLeDiff, ↓reduceIte, Int.reduceToNat, Nat.reduceGT, Int.reduceLE, Int.reduceLT, Int.reduceGE, Int.reduceGT, Int.reduceEq, Int.reduceNe, reduceCtorEq, mapAt TermG.av _ _ _ ha, TermG.av, TermG.cs_eq]
      intro v hv
      have hds := fun T cs => Hp.del_set _ _ T cs hv.1
      simp only [go_sem, Nat.reduceEqDiff, Nat.reduceAdd, Nat.reduceSub, Nat.reduceLT, Nat.reduceMul, Nat.reduceBEq, Nat.reduceLeDiff, ↓reduceIte, Int.reduceToNat, Nat.reduceGT, Int.reduceLE, Int.reduceLT, Int.reduceGE, Int.reduceGT, Int.reduceEq, Int.reduceNe, reduceCtorEq, hds]
      have r := hrec a (by omega) (by omega) hp
      simp only [TermG.av, TermG.cs_eq] at r
      refine callX_by r ?_
      rintro r hp1 ⟨rfl, rfl⟩
      simp only [go_sem, Nat.reduceEqDiff, Nat.reduceAdd, Nat.reduceSub, Nat.reduceLT, Nat.reduceMul, Nat.reduceBEq, Nat.reduceLeDiff, ↓reduceIte, Int.reduceToNat, Nat.reduceGT, Int.reduceLE, Int.reduceLT, Int.reduceGE, Int.reduceGT, Int.reduceEq, Int.reduceNe, reduceCtorEq, hwk, hws]
      exact ⟨k + 1, by omega, by omega, le_mkSl rfl (Hp.le_refl _) (by simp [go_sem, hwk, hws])⟩
    · have e2 : k = (kids t).length := by simp at b1; omega
      subst e2
      rw [List.take_length]
      exact ret_same ⟨by rw [hnt], rfl⟩
theorem depthN_calls : ∀ (N : Nat) (t : TermG), nodesT t ≤ N → N ≤ 5000 → ∀ (hp : Hp), ACalls Tryz.prog 143 [t.av] hp (fun r hp' => r = .v (.int .i64 (depthT t)) ∧ hp' = hp)
  | 0, t, hN, _, _ => by have := nodesT_pos t; omega
  | N + 1, t, hN, hN2, hp => by
    have hrec := depthN_calls N
    have hnt := nodes_kids t
    have hdt := depth_kids t
    have hkl := argsN_len (kids t)
    refine acalls_of Tryz.func143 rfl (by decide +kernel) (awp_sound (mu := []) _ _ _ ?_)
    simp only [go_sem, Nat.reduceEqDiff, Nat.reduceAdd, Nat.reduceSub, Nat.reduceLT, Nat.reduceMul, Nat.reduceBEq, Nat.reduceLeDiff, ↓reduceIte, Int.reduceToNat, Nat.reduceGT, Int.reduceLE, Int.reduceLT, Int.reduceGE, Int.reduceGT, Int.reduceEq, Int.reduceNe, reduceCtorEq, TermG.av, TermG.cs_eq]
    intro q1
    have r := children_calls t (by omega) hp
    simp only [TermG.av, TermG.cs_eq, termsAV] at r
    refine callX_by r ?_
    rintro r hp1 ⟨h7, rfl, rfl⟩
    simp only [go_sem, Nat.reduceEqDiff, Nat.reduceAdd, Nat.reduceSub, Nat.reduceLT, Nat.reduceMul, Nat.reduceBEq, Nat.reduceLeDiff, ↓reduceIte, Int.reduceToNat, Nat.reduceGT, Int.reduceLE, Int.reduceLT, Int.reduceGE, Int.reduceGT, Int.reduceEq, Int.reduceNe, reduceCtorEq]
    refine aw_loopX 20 (fun k : Nat => [(3, .v (.int .i64 (depthA ((kids t).take k)))), (7, .lst 6 h7 ((kids t).map TermG.av)), (8, .v (.int .i64 (kids t).length)), (9, .v (.int .i64 k))])
      (fun _ => hp) (fun k => k ≤ (kids t).length) (fun k => (kids t).length - k) 0 (Nat.zero_le _) (le_mkSl rfl (Hp.le_addSp _ _) (by simp [go_sem, depthA])) ?_
    intro k hk
    refine awp_sound (mu := []) _ _ _ ?_
    simp only [go_sem, Nat.reduceEqDiff, Nat.reduceAdd, Nat.reduceSub, Nat.reduceLT, Nat.reduceMul, Nat.reduceBEq, Nat.reduceLeDiff, ↓reduceIte, Int.reduceToNat, Nat.reduceGT, Int.reduceLE, Int.reduceLT, Int.reduceGE, Int.reduceGT, Int.reduceEq, Int.reduceNe, reduceCtorEq]
    refine brK_mk (fun b1 => ?_) (fun b1 => ?_) <;> simp only [go_sem, Nat.reduceEqDiff, Nat.reduceAdd, Nat.reduceSub, Nat.reduceLT, Nat.reduceMul, Nat.reduceBEq, Nat.reduceLeDiff, ↓reduceIte, Int.reduceToNat, Nat.reduceGT, Int.reduceLE, Int.reduceLT, Int.reduceGE, Int.reduceGT, Int.reduceEq, Int.reduceNe, reduceCtorEq, b1]
    · have hk' : k < (kids t).length := by simpa using b1
      obtain ⟨a, ha⟩ := someAt (kids t) k hk'
      have hmem := List.mem_of_getElem? ha
      have hwk : IntKind.i64.wrap ((k : Int) + 1) = ((k + 1 : Nat) : Int) := IntWalk.i64_in _ (by omega)
      have hlt := kids_lt hmem
      have htk : depthA ((kids t).take (k + 1)) = max (depthA ((kids t).take k)) (depthT a) := by rw [List.take_add_one, ha, depthA_append]; simp [depthA]
      simp only [go_sem, Nat.reduceEqDiff, Nat.reduceAdd, Nat.reduceSub, Nat.reduceLT, Nat.reduceMul, Nat.reduceBEq, Nat.reduceLeDiff, ↓reduceIte, Int.reduceToNat, Nat.reduceGT, Int.reduceLE, Int.reduceLT, Int.reduceGE, Int.reduceGT, Int.reduceEq, Int.reduceNe, reduceCtorEq, mapAt TermG.av _ _ _ ha, TermG.av, TermG.cs_eq]
      intro v hv
      have hds := fun T cs => Hp.del_set _ _ T cs hv.1
      simp only [go_sem, Nat.reduceEqDiff, Nat.reduceAdd, Nat.reduceSub, Nat.reduceLT, Nat.reduceMul, Nat.reduceBEq, Nat.reduceLeDiff, ↓reduceIte, Int.reduceToNat, Nat.reduceGT, Int.reduceLE, Int.reduceLT, Int.reduceGE, Int.reduceGT, Int.reduceEq, Int.reduceNe, reduceCtorEq, hds]
      have r := hrec a (by omega) (by omega) hp
      simp only [TermG.av, TermG.cs_eq] at r
      refine callX_by r ?_
      rintro r hp1 ⟨rfl, rfl⟩
      refine max_by (fo := ⟨⟩) (fk := ⟨⟩) (k := .i64) (k' := .i64) (a := (depthA ((kids t).take k) : Int)) (b := (depthT a : Int)) (by simp [go_sem]) (by simp [go_sem]) (by simp [go_sem]) ?_
      have hmx : (if (depthT a : Int) > (depthA ((kids t).take k) : Int) then (depthT a : Int) else (depthA ((kids t).take k) : Int)) = (depthA ((kids t).take (k + 1)) : Int) := by rw [htk]; split <;> omega
      simp only [go_sem, Nat.reduceEqDiff, Nat.reduceAdd, Nat.reduceSub, Nat.reduceLT, Nat.reduceMul, Nat.reduceBEq, Nat.reduceLeDiff, ↓reduceIte, Int.reduceToNat, Nat.reduceGT, Int.reduceLE, Int.reduceLT, Int.reduceGE, Int.reduceGT, Int.reduceEq, Int.reduceNe, reduceCtorEq, hwk, hmx]
      exact ⟨k + 1, by omega, by omega, le_mkSl rfl (Hp.le_refl _) (by simp [go_sem, hwk])⟩
    · have e2 : k = (kids t).length := by simp at b1; omega
      subst e2
      rw [List.take_length]
      have hdn : depthA (kids t) < 5001 := by have := depth_nodes t; omega
      have hwd : IntKind.i64.wrap ((depthA (kids t) : Int) + 1) = ((depthA (kids t) + 1 : Nat) : Int) := IntWalk.i64_in _ (by omega)
      simp only [go_sem, Nat.reduceEqDiff, Nat.reduceAdd, Nat.reduceSub, Nat.reduceLT, Nat.reduceMul, Nat.reduceBEq, Nat.reduceLeDiff, ↓reduceIte, Int.reduceToNat, Nat.reduceGT, Int.reduceLE, Int.reduceLT, Int.reduceGE, Int.reduceGT, Int.reduceEq, Int.reduceNe, reduceCtorEq, hwd]
      exact ret_same ⟨by rw [hdt], rfl⟩
theorem small_calls (t : TermG) (hp : Hp) : ACalls Tryz.prog 88 [t.av] hp (fun r hp' => r = .v (.bool (decide (nodesT t ≤ 600) && decide (depthT t ≤ 24))) ∧ hp' = hp) := by
  refine acalls_of Tryz.func88 rfl (by decide +kernel) (awp_sound (mu := []) _ _ _ ?_)
  simp only [go_sem, Nat.reduceEqDiff, Nat.reduceAdd, Nat.reduceSub, Nat.reduceLT, Nat.reduceMul, Nat.reduceBEq, Nat.reduceLeDiff, ↓reduceIte, Int.reduceToNat, Nat.reduceGT, Int.reduceLE, Int.reduceLT, Int.reduceGE, Int.reduceGT, Int.reduceEq, Int.reduceNe, reduceCtorEq, TermG.av, TermG.cs_eq]
  intro q1
  have r := fits_t_calls t 600 (by omega) hp
  simp only [TermG.av, TermG.cs_eq] at r
  refine callX_by r ?_
  rintro r hp1 ⟨rfl, rfl⟩
  simp only [go_sem, Nat.reduceEqDiff, Nat.reduceAdd, Nat.reduceSub, Nat.reduceLT, Nat.reduceMul, Nat.reduceBEq, Nat.reduceLeDiff, ↓reduceIte, Int.reduceToNat, Nat.reduceGT, Int.reduceLE, Int.reduceLT, Int.reduceGE, Int.reduceGT, Int.reduceEq, Int.reduceNe, reduceCtorEq]
  refine brK_mk (fun b1 => ?_) (fun b1 => ?_) <;> simp only [go_sem, Nat.reduceEqDiff, Nat.reduceAdd, Nat.reduceSub, Nat.reduceLT, Nat.reduceMul, Nat.reduceBEq, Nat.reduceLeDiff, ↓reduceIte, Int.reduceToNat, Nat.reduceGT, Int.reduceLE, Int.reduceLT, Int.reduceGE, Int.reduceGT, Int.reduceEq, Int.reduceNe, reduceCtorEq, b1]
  · have r := depthN_calls 600 t (of_decide_eq_true b1) (by omega) hp1
    simp only [TermG.av, TermG.cs_eq] at r
    refine callX_by r ?_
    rintro r hp2 ⟨rfl, rfl⟩
    simp only [go_sem, Nat.reduceEqDiff, Nat.reduceAdd, Nat.reduceSub, Nat.reduceLT, Nat.reduceMul, Nat.reduceBEq, Nat.reduceLeDiff, ↓reduceIte, Int.reduceToNat, Nat.reduceGT, Int.reduceLE, Int.reduceLT, Int.reduceGE, Int.reduceGT, Int.reduceEq, Int.reduceNe, reduceCtorEq]
    exact ret_same ⟨by rw [b1, Bool.true_and]; congr 2; apply decide_eq_decide.2; omega, rfl⟩
  · exact ret_same ⟨rfl, rfl⟩
end Go.Proofs.YtkoachnlimebaaaGreatDoor
/- The reference of the layer 'term': names, types. -/
set_option linter.unusedSimpArgs false
set_option linter.unusedVariables false
set_option maxRecDepth 20000
set_option maxHeartbeats 4000000
namespace Go.Proofs.YtkoachnlimebaaaGreatDoor
open Go.AL

theorem in_calls (h : Value) (l : List Bytes) (s : Bytes) (hp : Hp) : ACalls Tryz.prog 186 [strsAV h l, .v (.string (bs s))] hp (fun r hp' => r = .v (.bool (hasB l s)) ∧ hp' = hp) := by
  refine acalls_fit (callable_of Tryz.func186 (by decide +kernel)) fun hfit => ?_
  have hl : l.length ≤ maxLen := fit_lst hfit.1
  clear hfit
  refine acalls_of Tryz.func186 rfl (by decide +kernel) (awp_sound (mu := []) _ _ _ ?_)
  simp only [go_sem, Nat.reduceEqDiff, Nat.reduceAdd, Nat.reduceSub, Nat.reduceLT, Nat.reduceBEq, Nat.reduceLeDiff, ↓reduceIte, Int.reduceToNat, Int.reduceLE, Int.reduceLT, Int.reduceEq, reduceCtorEq, strsAV]
  refine aw_loopX 17 (fun k : Nat => [(1, .v (.string (bs s))), (7, .lst 1 h (l.map fun s => .v (.string (bs s)))), (8, .v (.int .i64 l.length)), (9, .v (.int .i64 k))])
    (fun _ => hp) (fun k => k ≤ l.length ∧ hasB (l.drop k) s = hasB l s) (fun k => l.length - k) 0 ⟨Nat.zero_le _, rfl⟩ (le_mkSl rfl (Hp.le_refl _) (by simp [go_sem])) ?_
  rintro k ⟨hk, hd⟩
  refine awp_sound (mu := []) _ _ _ ?_
  simp only [go_sem, Nat.reduceEqDiff, Nat.reduceAdd, Nat.reduceSub, Nat.reduceLT, Nat.reduceBEq, Nat.reduceLeDiff, ↓reduceIte, Int.reduceToNat, Int.reduceLE, Int.reduceLT, Int.reduceEq, reduceCtorEq]
  refine brK_mk (fun b1 => ?_) (fun b1 => ?_) <;> simp only [go_sem, Nat.reduceEqDiff, Nat.reduceAdd, Nat.reduceSub, Nat.reduceLT, Nat.reduceBEq, Nat.reduceLeDiff, ↓reduceIte, Int.reduceToNat, Int.reduceLE, Int.reduceLT, Int.reduceEq, reduceCtorEq, b1]
  · have hk' : k < l.length := by simpa using b1
    obtain ⟨x, hx⟩ := someAt l k hk'
    have hwu := upK k _ hk' hl
    rw [dropK hx] at hd
    simp only [hasB, List.any_cons] at hd
    simp only [go_sem, Nat.reduceEqDiff, Nat.reduceAdd, Nat.reduceSub, Nat.reduceLT, Nat.reduceBEq, Nat.reduceLeDiff, ↓reduceIte, Int.reduceToNat, Int.reduceLE, Int.reduceLT, Int.reduceEq, reduceCtorEq, strAt _ _ _ hx]
    refine brK_mk (fun b2 => ?_) (fun b2 => ?_) <;> simp only [go_sem, Nat.reduceEqDiff, Nat.reduceAdd, Nat.reduceSub, Nat.reduceLT, Nat.reduceBEq, Nat.reduceLeDiff, ↓reduceIte, Int.reduceToNat, Int.reduceLE, Int.reduceLT, Int.reduceEq, reduceCtorEq, b2, hwu]
    · have e : s = x := (of_decide_eq_true b2).symm
      exact ret_same ⟨by rw [hasB, ← hd, decide_eq_true e, Bool.true_or], rfl⟩
    · have e : ¬ s = x := fun e => of_decide_eq_false b2 e.symm
      exact ⟨k + 1, by omega, ⟨by omega, by rw [hasB, hasB, ← hd, decide_eq_false e, Bool.false_or]⟩, le_mkSl rfl (Hp.le_refl _) (by simp [go_sem, hwu])⟩
  · have e : k = l.length := by simp at b1; omega
    rw [e, List.drop_of_length_le (Nat.le_refl _)] at hd
    exact ret_same ⟨by rw [← hd]; rfl, rfl⟩
theorem ones_strs (l : List Bytes) : ((l.map fun s => AV.v (.string (bs s))).flatMap AV.cells).all AV.one = true := strs_one l
theorem rwith_calls (h1 h2 : Value) (a b : List Bytes) (hl : a.length + b.length ≤ 8000000000000) (hp : Hp) : ACalls Tryz.prog 145 [strsAV h1 a, strsAV h2 b] hp (fun r hp' => ∃ h, r = strsAV h (a ++ b) ∧ hp' = hp) := by
  refine acalls_of Tryz.func145 rfl (by decide +kernel) (awp_sound (mu := []) _ _ _ ?_)
  simp only [go_sem, Nat.reduceEqDiff, Nat.reduceAdd, Nat.reduceSub, Nat.reduceLT, Nat.reduceBEq, Nat.reduceLeDiff, ↓reduceIte, Int.reduceToNat, Int.reduceLE, Int.reduceLT, Int.reduceEq, reduceCtorEq, strsAV]
  refine append0_by (a := .v (.slice none 0 0)) (b := strsAV h1 a) (h2 := h1) (ys := a.map fun s => .v (.string (bs s))) Tryz.k101 Tryz.s9 Tryz.y9 Tryz.z9 rfl (by decide)
    (by simp [go_sem]) (Cast.nil 1) (by simp [go_sem, strsAV]) (Cast.refl _) (ones_strs _) (by simp [maxLen]; omega) (by simp; omega) (by simp [go_sem]) (fun h3 => ?_)
  simp only [go_sem, Nat.reduceEqDiff, Nat.reduceAdd, Nat.reduceSub, Nat.reduceLT, Nat.reduceBEq, Nat.reduceLeDiff, ↓reduceIte, Int.reduceToNat, Int.reduceLE, Int.reduceLT, Int.reduceEq, reduceCtorEq]
  refine append_by (a := strsAV h3 a) (b := strsAV h2 b) (l1 := []) (l2 := hp.sp) (h := h3) (h2 := h2) Tryz.k101 Tryz.s9 Tryz.y9 Tryz.z9 rfl (by decide)
    (by simp [go_sem, strsAV]) (Cast.refl _) (by simp [go_sem, strsAV]) (Cast.refl _) (by simp [go_sem]) (ones_strs _) (by simp [maxLen]; omega) (by simp; omega) (by simp [go_sem]) (fun h4 => ?_)
  simp only [go_sem, Nat.reduceEqDiff, Nat.reduceAdd, Nat.reduceSub, Nat.reduceLT, Nat.reduceBEq, Nat.reduceLeDiff, ↓reduceIte, Int.reduceToNat, Int.reduceLE, Int.reduceLT, Int.reduceEq, reduceCtorEq]
  exact ret_le (Hp.le_addSp _ _) ⟨h4, by simp [strsAV], rfl⟩
theorem names_calls (h : Value) (l : List Bytes) (n : Nat) (hp : Hp) : ACalls Tryz.prog 142 [strsAV h l, .v (.int .i64 n)] hp (fun r hp' => r = .v (.bool (distinctB l && decide (l.length = n))) ∧ hp' = hp) := by
  refine acalls_fit (callable_of Tryz.func142 (by decide +kernel)) fun hfit => ?_
  have hl : l.length ≤ maxLen := fit_lst hfit.1
  clear hfit
  refine acalls_of Tryz.func142 rfl (by decide +kernel) (awp_sound (mu := []) _ _ _ ?_)
  simp only [go_sem, Nat.reduceEqDiff, Nat.reduceAdd, Nat.reduceSub, Nat.reduceLT, Nat.reduceBEq, Nat.reduceLeDiff, ↓reduceIte, Int.reduceToNat, Int.reduceLE, Int.reduceLT, Int.reduceEq, reduceCtorEq, strsAV]
  refine aw_loopX 29 (fun k : Nat => [(0, .lst 1 h (l.map fun s => .v (.string (bs s)))), (1, .v (.int .i64 n)), (7, .lst 1 h (l.map fun s => .v (.string (bs s)))), (8, .v (.int .i64 l.length)), (9, .v (.int .i64 k))])
    (fun _ => hp) (fun k => k ≤ l.length ∧ distinctF (l.take k) (l.drop k) = distinctF [] l) (fun k => l.length - k) 0 ⟨Nat.zero_le _, rfl⟩ (le_mkSl rfl (Hp.le_refl _) (by simp [go_sem])) ?_
  rintro k ⟨hk, hd⟩
  refine awp_sound (mu := []) _ _ _ ?_
  simp only [go_sem, Nat.reduceEqDiff, Nat.reduceAdd, Nat.reduceSub, Nat.reduceLT, Nat.reduceBEq, Nat.reduceLeDiff, ↓reduceIte, Int.reduceToNat, Int.reduceLE, Int.reduceLT, Int.reduceEq, reduceCtorEq]
  refine brK_mk (fun b1 => ?_) (fun b1 => ?_) <;> simp only [go_sem, Nat.reduceEqDiff, Nat.reduceAdd, Nat.reduceSub, Nat.reduceLT, Nat.reduceBEq, Nat.reduceLeDiff, ↓reduceIte, Int.reduceToNat, Int.reduceLE, Int.reduceLT, Int.reduceEq, reduceCtorEq, b1]
  · have hk' : k < l.length := by simpa using b1
    obtain ⟨x, hx⟩ := someAt l k hk'
    have hwu := upK k _ hk' hl
    have htk : l.take (k + 1) = l.take k ++ [x] := by rw [List.take_add_one, hx]; rfl
    rw [dropK hx, distinctF] at hd
    simp only [go_sem, Nat.reduceEqDiff, Nat.reduceAdd, Nat.reduceSub, Nat.reduceLT, Nat.reduceBEq, Nat.reduceLeDiff, ↓reduceIte, Int.reduceToNat, Int.reduceLE, Int.reduceLT, Int.reduceEq, reduceCtorEq, strAt _ _ _ hx]
    refine callX_by (rname_calls x _) ?_
    rintro r hp1 ⟨rfl, rfl⟩
    simp only [go_sem, Nat.reduceEqDiff, Nat.reduceAdd, Nat.reduceSub, Nat.reduceLT, Nat.reduceBEq, Nat.reduceLeDiff, ↓reduceIte, Int.reduceToNat, Int.reduceLE, Int.reduceLT, Int.reduceEq, reduceCtorEq, ← name_same]
    refine brK_mk (fun b2 => ?_) (fun b2 => ?_) <;> simp only [go_sem, Nat.reduceEqDiff, Nat.reduceAdd, Nat.reduceSub, Nat.reduceLT, Nat.reduceBEq, Nat.reduceLeDiff, ↓reduceIte, Int.reduceToNat, Int.reduceLE, Int.reduceLT, Int.reduceEq, reduceCtorEq, b2]
    · refine ⟨by omega, fun a' c' => ?_⟩
      have c := in_calls (.slice a' k c') (l.take k) x hp1
      simp only [strsAV, List.map_take] at c
      refine callX_by c ?_
      rintro r hp2 ⟨rfl, rfl⟩
      simp only [go_sem, Nat.reduceEqDiff, Nat.reduceAdd, Nat.reduceSub, Nat.reduceLT, Nat.reduceBEq, Nat.reduceLeDiff, ↓reduceIte, Int.reduceToNat, Int.reduceLE, Int.reduceLT, Int.reduceEq, reduceCtorEq]
      refine brK_mk (fun b3 => ?_) (fun b3 => ?_) <;> simp only [go_sem, Nat.reduceEqDiff, Nat.reduceAdd, Nat.reduceSub, Nat.reduceLT, Nat.reduceBEq, Nat.reduceLeDiff, ↓reduceIte, Int.reduceToNat, Int.reduceLE, Int.reduceLT, Int.reduceEq, reduceCtorEq, b3, hwu]
      · exact ret_same ⟨by rw [distinctB, ← hd, b2, b3]; rfl, rfl⟩
      · exact ⟨k + 1, by omega, ⟨by omega, by rw [← hd, b2, b3, htk]; rfl⟩, le_mkSl rfl (Hp.le_refl _) (by simp [go_sem, hwu])⟩
    · exact ret_same ⟨by rw [distinctB, ← hd, b2]; rfl, rfl⟩
  · have e : k = l.length := by simp at b1; omega
    rw [e, List.drop_of_length_le (Nat.le_refl _)] at hd
    exact ret_same ⟨by rw [distinctB, ← hd]; simp [distinctF]; omega, rfl⟩
theorem data_calls (hd : Value) (l : List DeclG) (t : Int) (hp : Hp) : ACalls Tryz.prog 228 [declsAV hd l, .v (.int .i64 t)] hp (fun r hp' => r = .v (.bool (dataB l t false)) ∧ hp' = hp) := by
  refine acalls_fit (callable_of Tryz.func228 (by decide +kernel)) fun hfit => ?_
  have hl := (fit_decls hfit.1).len
  refine acalls_of Tryz.func228 rfl (by decide +kernel) (awp_sound (mu := []) _ _ _ ?_)
  simp only [go_sem, Nat.reduceEqDiff, Nat.reduceAdd, Nat.reduceSub, Nat.reduceLT, Nat.reduceBEq, Nat.reduceLeDiff, ↓reduceIte, Int.reduceToNat, Int.reduceLE, Int.reduceLT, Int.reduceEq, reduceCtorEq, declsAV]
  refine brK_mk (fun h1 => ?_) (fun h1 => ?_) <;> simp only [go_sem, Nat.reduceEqDiff, Nat.reduceAdd, Nat.reduceSub, Nat.reduceLT, Nat.reduceBEq, Nat.reduceLeDiff, ↓reduceIte, Int.reduceToNat, Int.reduceLE, Int.reduceLT, Int.reduceEq, reduceCtorEq, h1]
  · refine brK_mk (fun h2 => ?_) (fun h2 => ?_) <;> simp only [go_sem, Nat.reduceEqDiff, Nat.reduceAdd, Nat.reduceSub, Nat.reduceLT, Nat.reduceBEq, Nat.reduceLeDiff, ↓reduceIte, Int.reduceToNat, Int.reduceLE, Int.reduceLT, Int.reduceEq, reduceCtorEq, h2]
    · have h1' := h1; have h2' := h2; simp at h1' h2'
      obtain ⟨d, hdl⟩ := some_at l (t - 1).toNat (by omega)
      simp only [go_sem, Nat.reduceEqDiff, Nat.reduceAdd, Nat.reduceSub, Nat.reduceLT, Nat.reduceBEq, Nat.reduceLeDiff, ↓reduceIte, Int.reduceToNat, Int.reduceLE, Int.reduceLT, Int.reduceEq, reduceCtorEq, wrap_t (t := t) _ (by omega) h2' hl, map_at DeclG.av _ _ _ hdl, DeclG.av, DeclG.cs]
      refine ⟨by omega, ?_⟩
      exact ret_same ⟨by simp only [dataB, codataB, h1, h2, hdl, Bool.and_true, Bool.true_and, Bool.and_false, Bool.false_and, Bool.or_true, Bool.true_or, Bool.or_false, Bool.false_or, Bool.not_true, Bool.not_false]; cases hc : d.codata <;> simp [hc], rfl⟩
    · exact ret_same ⟨by simp only [dataB, h1, h2, Bool.and_true, Bool.true_and, Bool.and_false, Bool.false_and, Bool.or_true, Bool.true_or, Bool.or_false, Bool.false_or, Bool.not_true, Bool.not_false], rfl⟩
  · exact ret_same ⟨by simp only [dataB, h1, Bool.and_true, Bool.true_and, Bool.and_false, Bool.false_and, Bool.or_true, Bool.true_or, Bool.or_false, Bool.false_or, Bool.not_true, Bool.not_false], rfl⟩
theorem codata_dataB (l : List DeclG) (t : Int) : rcodataB l t = dataB l t true := by simp [rcodataB, dataB]
theorem rproducers_calls (x : XtorG) (hx : x.args.length ≤ 6) (hp : Hp) : ACalls Tryz.prog 188 [x.av] hp (fun r hp' => ∃ h, r = intsAV h (prodsX x) ∧ hp' = hp.setSp ((3, 1, h) :: hp.sp)) := by
  refine acalls_addNil 3 1 ?_
  refine acalls_of Tryz.func188 rfl (by decide +kernel) (awp_sound (mu := []) _ _ _ ?_)
  simp only [go_sem, Nat.reduceEqDiff, Nat.reduceAdd, Nat.reduceSub, Nat.reduceLT, Nat.reduceBEq, Nat.reduceLeDiff, ↓reduceIte, Int.reduceToNat, Int.reduceLE, Int.reduceLT, Int.reduceEq, reduceCtorEq, XtorG.av, XtorG.cs]
  intro p
  refine aw_loopX 23 (fun y : Nat × Value => [(3, intsAV y.2 (((x.args.take y.1).filter fun a => !a.co).map ArgG.typ)), (7, .lst 2 x.h (x.args.map ArgG.av)), (8, .v (.int .i64 x.args.length)), (9, .v (.int .i64 y.1))])
    (fun y => hp.setSp ((3, 1, y.2) :: hp.sp)) (fun y => y.1 ≤ x.args.length) (fun y => x.args.length - y.1) (0, .slice none 0 0) (Nat.zero_le _) (le_of_cast rfl (Hp.le_refl _) (by simp [go_sem, Cast.refl, intsAV]; exact Cast.nil 1)) ?_
  rintro ⟨k, h3⟩ hk
  simp only at hk
  refine awp_sound (mu := []) _ _ _ ?_
  simp only [go_sem, Nat.reduceEqDiff, Nat.reduceAdd, Nat.reduceSub, Nat.reduceLT, Nat.reduceBEq, Nat.reduceLeDiff, ↓reduceIte, Int.reduceToNat, Int.reduceLE, Int.reduceLT, Int.reduceEq, reduceCtorEq, intsAV]
  refine brK_mk (fun h1 => ?_) (fun h1 => ?_) <;> simp only [go_sem, Nat.reduceEqDiff, Nat.reduceAdd, Nat.reduceSub, Nat.reduceLT, Nat.reduceBEq, Nat.reduceLeDiff, ↓reduceIte, Int.reduceToNat, Int.reduceLE, Int.reduceLT, Int.reduceEq, reduceCtorEq, h1]
  · have hk' : k < x.args.length := by simpa using h1
    obtain ⟨a, ha⟩ := someAt x.args k hk'
    have hwu : IntKind.i64.wrap ((k : Int) + 1) = ((k + 1 : Nat) : Int) := IntWalk.i64_in _ (by omega)
    have hta : x.args.take (k + 1) = x.args.take k ++ [a] := by rw [List.take_add_one, ha]; rfl
    have hle : ((x.args.take k).filter fun a => !a.co).length ≤ 6 := Nat.le_trans (List.length_filter_le _ _) (by simp; omega)
    simp only [go_sem, Nat.reduceEqDiff, Nat.reduceAdd, Nat.reduceSub, Nat.reduceLT, Nat.reduceBEq, Nat.reduceLeDiff, ↓reduceIte, Int.reduceToNat, Int.reduceLE, Int.reduceLT, Int.reduceEq, reduceCtorEq, mapAt ArgG.av _ _ _ ha, ArgG.av, ArgG.cs]
    intro v hv
    have hds := fun T cs => Hp.del_set _ _ T cs hv.1
    cases hco : a.co with
    | true =>
      simp only [go_sem, Nat.reduceEqDiff, Nat.reduceAdd, Nat.reduceSub, Nat.reduceLT, Nat.reduceBEq, Nat.reduceLeDiff, ↓reduceIte, Int.reduceToNat, Int.reduceLE, Int.reduceLT, Int.reduceEq, reduceCtorEq, hds, hwu]
      exact ⟨(k + 1, h3), by simp only; omega, by simp only; omega, le_mkSl rfl (Hp.le_refl _) (by rw [hta]; simp [go_sem, hwu, hco, intsAV])⟩
    | false =>
      simp only [go_sem, Nat.reduceEqDiff, Nat.reduceAdd, Nat.reduceSub, Nat.reduceLT, Nat.reduceBEq, Nat.reduceLeDiff, ↓reduceIte, Int.reduceToNat, Int.reduceLE, Int.reduceLT, Int.reduceEq, reduceCtorEq, hds]
      refine ⟨rfl, by simp, fun hd => ?_⟩
      refine append_by (a := intsAV h3 (((x.args.take k).filter fun a => !a.co).map ArgG.typ)) (b := .lst 1 hd [iv a.typ]) (l1 := [(3, 1, hd)]) (l2 := hp.sp) (h := h3) (h2 := hd) Tryz.k26 Tryz.s3 Tryz.y3 Tryz.z3 rfl (by decide)
        (by simp [go_sem, intsAV]) (Cast.refl _) (by simp [go_sem, iv]) (Cast.refl _) (by simp [go_sem]) (by simp [go_sem, iv]) (by simp [maxLen]; omega) (by simp; omega) (by simp [go_sem]) (fun h' => ?_)
      simp only [go_sem, Nat.reduceEqDiff, Nat.reduceAdd, Nat.reduceSub, Nat.reduceLT, Nat.reduceBEq, Nat.reduceLeDiff, ↓reduceIte, Int.reduceToNat, Int.reduceLE, Int.reduceLT, Int.reduceEq, reduceCtorEq, hwu]
      exact ⟨(k + 1, h'), by simp only; omega, by simp only; omega, le_mkSl rfl ⟨fun _ _ h => h, fun _ _ h => h, List.sublist_cons_self _ _, fun _ h => h⟩ (by rw [hta]; simp [go_sem, hwu, hco, intsAV])⟩
  · have e : k = x.args.length := by simp at h1; omega
    subst e
    rw [List.take_length]
    exact ret_same ⟨h3, rfl, rfl⟩
theorem sameInts_calls (ha hb : Value) (a b : List Int) (hp : Hp) : ACalls Tryz.prog 42 [intsAV ha a, intsAV hb b] hp (fun r hp' => r = .v (.bool (decide (a = b))) ∧ hp' = hp) := by
  refine acalls_fit (callable_of Tryz.func42 (by decide +kernel)) fun hfit => ?_
  have hl : a.length ≤ maxLen := fit_lst hfit.1
  clear hfit
  refine acalls_of Tryz.func42 rfl (by decide +kernel) (awp_sound (mu := []) _ _ _ ?_)
  simp only [go_sem, Nat.reduceEqDiff, Nat.reduceAdd, Nat.reduceSub, Nat.reduceLT, Nat.reduceBEq, Nat.reduceLeDiff, ↓reduceIte, Int.reduceToNat, Int.reduceLE, Int.reduceLT, Int.reduceEq, reduceCtorEq, intsAV]
  refine brK_mk (fun b0 => ?_) (fun b0 => ?_) <;> simp only [go_sem, Nat.reduceEqDiff, Nat.reduceAdd, Nat.reduceSub, Nat.reduceLT, Nat.reduceBEq, Nat.reduceLeDiff, ↓reduceIte, Int.reduceToNat, Int.reduceLE, Int.reduceLT, Int.reduceEq, reduceCtorEq, b0]
  · have hab : a.length = b.length := by have := of_decide_eq_true b0; omega
    refine aw_loopX 26 (fun k : Nat => [(0, .lst 1 ha (a.map iv)), (1, .lst 1 hb (b.map iv)), (12, .v (.int .i64 a.length)), (13, .v (.int .i64 k))])
      (fun _ => hp) (fun k => k ≤ a.length ∧ a.take k = b.take k) (fun k => a.length - k) 0 ⟨Nat.zero_le _, rfl⟩ (le_mkSl rfl (Hp.le_refl _) (by simp [go_sem])) ?_
    rintro k ⟨hk, hd⟩
    refine awp_sound (mu := []) _ _ _ ?_
    simp only [go_sem, Nat.reduceEqDiff, Nat.reduceAdd, Nat.reduceSub, Nat.reduceLT, Nat.reduceBEq, Nat.reduceLeDiff, ↓reduceIte, Int.reduceToNat, Int.reduceLE, Int.reduceLT, Int.reduceEq, reduceCtorEq]
    refine brK_mk (fun b1 => ?_) (fun b1 => ?_) <;> simp only [go_sem, Nat.reduceEqDiff, Nat.reduceAdd, Nat.reduceSub, Nat.reduceLT, Nat.reduceBEq, Nat.reduceLeDiff, ↓reduceIte, Int.reduceToNat, Int.reduceLE, Int.reduceLT, Int.reduceEq, reduceCtorEq, b1]
    · have hk' : k < a.length := by simpa using b1
      obtain ⟨x, hx⟩ := someAt a k hk'
      obtain ⟨y, hy⟩ := someAt b k (by omega)
      have hwu := upK k _ hk' hl
      refine draw_by (mu := []) (fun _ => True) (.take 0 (.take 1 (.take 2 (.take 3 (.take 4 (.take 5 (.take 6 (.take 7 (.take 8 (.done)))))))))) (by decide +kernel) trivial (by decide +kernel) (by decide +kernel) ?_
      simp only [go_sem, Nat.reduceEqDiff, Nat.reduceAdd, Nat.reduceSub, Nat.reduceLT, Nat.reduceBEq, Nat.reduceLeDiff, ↓reduceIte, Int.reduceToNat, Int.reduceLE, Int.reduceLT, Int.reduceEq, reduceCtorEq, mapAt iv _ _ _ hx, mapAt iv _ _ _ hy, iv]
      refine brK_mk (fun b2 => ?_) (fun b2 => ?_) <;> simp only [go_sem, Nat.reduceEqDiff, Nat.reduceAdd, Nat.reduceSub, Nat.reduceLT, Nat.reduceBEq, Nat.reduceLeDiff, ↓reduceIte, Int.reduceToNat, Int.reduceLE, Int.reduceLT, Int.reduceEq, reduceCtorEq, b2, hwu]
      · have e := of_decide_eq_true b2
        subst e
        exact ⟨k + 1, by omega, ⟨by omega, by rw [List.take_add_one, List.take_add_one, hx, hy, hd]⟩, le_mkSl rfl (Hp.le_refl _) (by simp [go_sem, hwu])⟩
      · have e := of_decide_eq_false b2
        exact ret_same ⟨by rw [decide_eq_false]; rintro rfl; rw [hx] at hy; exact e (Option.some.inj hy), rfl⟩
    · have e : k = a.length := by simp at b1; omega
      subst e
      rw [List.take_length, hab, List.take_length] at hd
      exact ret_same ⟨by rw [decide_eq_true hd], rfl⟩
  · exact ret_same ⟨by rw [decide_eq_false]; rintro rfl; exact of_decide_eq_false b0 rfl, rfl⟩
end Go.Proofs.YtkoachnlimebaaaGreatDoor
