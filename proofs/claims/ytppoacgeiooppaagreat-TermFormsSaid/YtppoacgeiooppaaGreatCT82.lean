/- The reference of the layer 'term': Count, Calls; SameLists. -/
import Derived.Test.YtppoacgeiooppaaGreatCT80
import Derived.Test.YtppoacgeiooppaaGreatCT22
import Derived.Test.YtppoacgeiooppaaGreatCT22
import Derived.Test.YtppoacgeiooppaaGreatCT80
import Derived.Test.YtppoacgeiooppaaGreatCT29
set_option linter.unusedSimpArgs false
set_option linter.unusedVariables false
set_option maxRecDepth 20000
set_option maxHeartbeats 4000000
namespace Go.Proofs.YtppoacgeiooppaaGreat
open Go.AL

theorem rcount_calls (p : ProgG) (hno : ∀ f ∈ p.fs, nodesT f.body ≤ 5000) (hs : nodesF p.fs ≤ 1000000) (hp : Hp) : ACalls Tryz.prog 26 [p.av] hp (fun r hp' => r = .v (.int .i64 (nodesF p.fs)) ∧ hp' = hp) := by
  refine acalls_fit (callable_of Tryz.func26 (by decide +kernel)) fun hfit => ?_
  have hlm : p.fs.length ≤ maxLen := by
    have h := hfit.1
    simp only [ProgG.av, ProgG.cs, AV.fit, AV.fits, declsAV, funsAV] at h
    exact fit_lst (f := FunG.av) (sz := 9) (h := p.hf) (l := p.fs) (by simpa [AV.fit] using h.2.1)
  clear hfit
  refine acalls_of Tryz.func26 rfl (by decide +kernel) (awp_sound (mu := []) _ _ _ ?_)
  simp only [go_sem, Nat.reduceEqDiff, Nat.reduceAdd, Nat.reduceSub, Nat.reduceLT, Nat.reduceMul, Nat.reduceBEq, Nat.reduceLeDiff, ↓reduceIte, Int.reduceToNat, Nat.reduceGT, Int.reduceLE, Int.reduceLT, Int.reduceGE, Int.reduceGT, Int.reduceEq, Int.reduceNe, reduceCtorEq, ProgG.av, ProgG.cs, declsAV, funsAV]
  intro q1
  refine aw_loopX 20 (fun k : Nat => [(3, .v (.int .i64 (nodesF (p.fs.take k)))), (7, .lst 9 p.hf (p.fs.map FunG.av)), (8, .v (.int .i64 p.fs.length)), (9, .v (.int .i64 k))])
    (fun _ => hp) (fun k => k ≤ p.fs.length) (fun k => p.fs.length - k) 0 (Nat.zero_le _) (le_mkSl rfl (Hp.le_refl _) (by simp [go_sem, nodesF])) ?_
  intro k hk
  refine awp_sound (mu := []) _ _ _ ?_
  simp only [go_sem, Nat.reduceEqDiff, Nat.reduceAdd, Nat.reduceSub, Nat.reduceLT, Nat.reduceMul, Nat.reduceBEq, Nat.reduceLeDiff, ↓reduceIte, Int.reduceToNat, Nat.reduceGT, Int.reduceLE, Int.reduceLT, Int.reduceGE, Int.reduceGT, Int.reduceEq, Int.reduceNe, reduceCtorEq]
  refine brK_mk (fun b1 => ?_) (fun b1 => ?_) <;> simp only [go_sem, Nat.reduceEqDiff, Nat.reduceAdd, Nat.reduceSub, Nat.reduceLT, Nat.reduceMul, Nat.reduceBEq, Nat.reduceLeDiff, ↓reduceIte, Int.reduceToNat, Nat.reduceGT, Int.reduceLE, Int.reduceLT, Int.reduceGE, Int.reduceGT, Int.reduceEq, Int.reduceNe, reduceCtorEq, b1]
  · have hk' : k < p.fs.length := by simpa using b1
    obtain ⟨f, hx⟩ := someAt p.fs k hk'
    have hmem := List.mem_of_getElem? hx
    have hwk := upK k _ hk' hlm
    have htk := nodesF_take hx
    have hle := nodesF_le p.fs (k + 1)
    have hws : IntKind.i64.wrap ((nodesF (p.fs.take k) : Int) + (nodesT f.body : Int)) = ((nodesF (p.fs.take (k + 1)) : Nat) : Int) := by
      rw [htk, show ((nodesF (p.fs.take k) : Nat) : Int) + (nodesT f.body : Int) = ((nodesF (p.fs.take k) + nodesT f.body : Nat) : Int) by omega]; exact IntWalk.i64_in _ (by omega)
    simp only [go_sem, Nat.reduceEqDiff, Nat.reduceAdd, Nat.reduceSub, Nat.reduceLT, Nat.reduceMul, Nat.reduceBEq, Nat.reduceLeDiff, ↓reduceIte, Int.reduceToNat, Nat.reduceGT, Int.reduceLE, Int.reduceLT, Int.reduceGE, Int.reduceGT, Int.reduceEq, Int.reduceNe, reduceCtorEq, mapAt FunG.av _ _ _ hx, FunG.av, FunG.cs, paramsAV]
    intro v hv
    have hds := fun T cs => Hp.del_set _ _ T cs hv.1
    simp only [go_sem, Nat.reduceEqDiff, Nat.reduceAdd, Nat.reduceSub, Nat.reduceLT, Nat.reduceMul, Nat.reduceBEq, Nat.reduceLeDiff, ↓reduceIte, Int.reduceToNat, Nat.reduceGT, Int.reduceLE, Int.reduceLT, Int.reduceGE, Int.reduceGT, Int.reduceEq, Int.reduceNe, reduceCtorEq, hds]
    have r := nodesN_calls (nodesT f.body) f.body (Nat.le_refl _) (hno f hmem) hp
    simp only [TermG.av, TermG.cs_eq] at r
    refine callX_by r ?_
    rintro r hp1 ⟨rfl, rfl⟩
    simp only [go_sem, Nat.reduceEqDiff, Nat.reduceAdd, Nat.reduceSub, Nat.reduceLT, Nat.reduceMul, Nat.reduceBEq, Nat.reduceLeDiff, ↓reduceIte, Int.reduceToNat, Nat.reduceGT, Int.reduceLE, Int.reduceLT, Int.reduceGE, Int.reduceGT, Int.reduceEq, Int.reduceNe, reduceCtorEq, hwk, hws]
    exact ⟨k + 1, by omega, by omega, le_mkSl rfl (Hp.le_refl _) (by simp [go_sem, hwk, hws])⟩
  · have e2 : k = p.fs.length := by simp at b1; omega
    subst e2
    rw [List.take_length]
    exact ret_same ⟨rfl, rfl⟩

/-! ### calls -/
def bvs (l : List Bool) : List AV := l.map fun x => .v (.bool x)
theorem bvs_len (l : List Bool) : (bvs l).length = l.length := by simp [bvs]
theorem bvs_set (l : List Bool) (i : Nat) (x : Bool) (h : i < l.length) : List.take i (bvs l) ++ [AV.v (.bool x)] ++ List.drop (i + 1) (bvs l) = bvs (l.set i x) := by
  rw [List.set_eq_take_append_cons_drop, if_pos h]
  simp [bvs, List.map_take, List.map_drop]
def markF (m : List Bool) (s : TermG) : List Bool := if s.op = 9 then m.set s.n.toNat true else m
def markL (m : List Bool) (l : List TermG) : List Bool := l.foldl markF m
theorem markF_len (m : List Bool) (s : TermG) : (markF m s).length = m.length := by
  simp only [markF]; split <;> simp
theorem markL_len (m : List Bool) (l : List TermG) : (markL m l).length = m.length := by
  induction l generalizing m with
  | nil => rfl
  | cons s r ih => rw [markL, List.foldl_cons]; exact (ih _).trans (markF_len m s)
theorem markL_app (m : List Bool) (l r : List TermG) : markL m (l ++ r) = markL (markL m l) r := by simp [markL]
theorem markL_at (i : Nat) : ∀ (l : List TermG) (m : List Bool), i < m.length → (∀ s ∈ l, s.op = 9 → 0 ≤ s.n) → (markL m l)[i]? = some ((m[i]?).getD false || callsIn l (i : Int))
  | [], m, h, _ => by
    rw [markL, List.foldl_nil, List.getElem?_eq_getElem h]; simp [callsIn]
  | s :: r, m, h, hn => by
    have h2 : callsIn (s :: r) (i : Int) = ((decide (s.op = 9) && decide (s.n = (i : Int))) || callsIn r (i : Int)) := rfl
    rw [markL, List.foldl_cons]
    refine (markL_at i r (markF m s) (by rw [markF_len]; exact h) (fun s hs => hn s (List.mem_cons_of_mem _ hs))).trans ?_
    rw [h2, ← Bool.or_assoc]
    congr 2
    simp only [markF]
    by_cases e : s.op = 9
    · have h0 := hn s List.mem_cons_self e
      rw [if_pos e, List.getElem?_set]
      by_cases e2 : s.n.toNat = i
      · have e3 : s.n = (i : Int) := by omega
        rw [if_pos e2, if_pos (by omega)]; simp [e, e3]
      · have e3 : ¬ s.n = (i : Int) := fun h => e2 (by omega)
        rw [if_neg e2]; simp [e3]
    · rw [if_neg e]; simp [e]
theorem kids_pre (t : TermG) : preT t = t :: (kids t).flatMap preT := by
  have hA : ∀ l : List TermG, preA l = l.flatMap preT := fun l => by
    induction l with
    | nil => rfl
    | cons a r ih => rw [preA, List.flatMap_cons, ih]
  have hC : ∀ l : List ClauseG, preC l = (l.map ClauseG.body).flatMap preT := fun l => by
    induction l with
    | nil => rfl
    | cons c r ih => cases c; rw [preC, List.map_cons, List.flatMap_cons, ih]; rfl
  cases t with
  | mk op n name ty ha args hc cls =>
    rw [preT, hA, hC, kids, List.flatMap_append]; rfl
theorem calls_at : ∀ (N : Nat) (t : TermG), nodesT t ≤ N → N ≤ 5000 → ∀ (hp : Hp) (b : Nat) (m : List Bool), m.length ≤ 1000 → (∀ s ∈ preT t, s.op = 9 → 0 ≤ s.n ∧ s.n < m.length) →
    ACalls Tryz.prog 58 [t.av, .v (.slice (some ⟨b, 0, none⟩) m.length m.length)] (hp.setBlk b 4 (bvs m)) (fun r hp' => r = .tup [] ∧ hp' = hp.setBlk b 4 (bvs (markL m (preT t))))
  | 0, t, hN, _, _, _, _, _, _ => by have := nodesT_pos t; omega
  | N + 1, t, hN, hN2, hp, b, m, hm, hc => by
    have hrec := calls_at N
    have hnt := nodes_kids t
    have hkl := argsN_len (kids t)
    have hkp := kids_pre t
    have hst : markL m (preT t) = markL (markF m t) ((kids t).flatMap preT) := by rw [hkp, markL, List.foldl_cons]; rfl
    refine acalls_of Tryz.func58 rfl (by decide +kernel) (aw_seq (awp_sound (mu := []) _ _ _ ?_))
    simp only [go_sem, Nat.reduceEqDiff, Nat.reduceAdd, Nat.reduceSub, Nat.reduceLT, Nat.reduceMul, Nat.reduceBEq, Nat.reduceLeDiff, ↓reduceIte, Int.reduceToNat, Nat.reduceGT, Int.reduceLE, Int.reduceLT, Int.reduceGE, Int.reduceGT, Int.reduceEq, Int.reduceNe, reduceCtorEq, TermG.av, TermG.cs_eq]
    intro q2
    refine aw_cut 24 (fun _ : Unit => [(1, .v (.slice (some ⟨b, 0, none⟩) m.length m.length)), (2, .ref q2 [.v (.int .i64 t.op), .v (.int .i64 t.n), .v (.string (bs t.name)), .v (.int .i64 t.ty), .lst 6 t.ha (t.args.map TermG.av), .lst 7 t.hc (t.cls.map ClauseG.av)])])
      (fun _ => hp.setBlk b 4 (bvs (markF m t))) (fun _ => True) (awp_sound (mu := [12]) _ _ _ ?_) ?_
    · simp only [go_sem, Nat.reduceEqDiff, Nat.reduceAdd, Nat.reduceSub, Nat.reduceLT, Nat.reduceMul, Nat.reduceBEq, Nat.reduceLeDiff, ↓reduceIte, Int.reduceToNat, Nat.reduceGT, Int.reduceLE, Int.reduceLT, Int.reduceGE, Int.reduceGT, Int.reduceEq, Int.reduceNe, reduceCtorEq]
      refine brK_mk (fun b1 => ?_) (fun b1 => ?_) <;> simp only [go_sem, Nat.reduceEqDiff, Nat.reduceAdd, Nat.reduceSub, Nat.reduceLT, Nat.reduceMul, Nat.reduceBEq, Nat.reduceLeDiff, ↓reduceIte, Int.reduceToNat, Nat.reduceGT, Int.reduceLE, Int.reduceLT, Int.reduceGE, Int.reduceGT, Int.reduceEq, Int.reduceNe, reduceCtorEq, b1]
      · have o9 : t.op = 9 := of_decide_eq_true b1
        obtain ⟨n0, n1⟩ := hc t (by rw [hkp]; exact List.mem_cons_self) o9
        refine ⟨n0, n1, by rw [bvs_len]; omega, (), le_mkSl rfl ?_ (by simp [go_sem])⟩
        simp only [go_sem, Nat.reduceEqDiff, Nat.reduceAdd, Nat.reduceSub, Nat.reduceLT, Nat.reduceMul, Nat.reduceBEq, Nat.reduceLeDiff, ↓reduceIte, Int.reduceToNat, Nat.reduceGT, Int.reduceLE, Int.reduceLT, Int.reduceGE, Int.reduceGT, Int.reduceEq, Int.reduceNe, reduceCtorEq]
        rw [bvs_set _ _ _ (by omega), markF, if_pos o9]
        exact Hp.le_refl _
      · have o9 : ¬ t.op = 9 := of_decide_eq_false b1
        refine ⟨(), le_mkSl rfl ?_ (by simp [go_sem])⟩
        simp only [go_sem, Nat.reduceEqDiff, Nat.reduceAdd, Nat.reduceSub, Nat.reduceLT, Nat.reduceMul, Nat.reduceBEq, Nat.reduceLeDiff, ↓reduceIte, Int.reduceToNat, Nat.reduceGT, Int.reduceLE, Int.reduceLT, Int.reduceGE, Int.reduceGT, Int.reduceEq, Int.reduceNe, reduceCtorEq]
        rw [markF, if_neg o9]
        exact Hp.le_refl _
    rintro ⟨⟩ -
    refine awp_sound (mu := [12]) _ _ _ ?_
    simp only [go_sem, Nat.reduceEqDiff, Nat.reduceAdd, Nat.reduceSub, Nat.reduceLT, Nat.reduceMul, Nat.reduceBEq, Nat.reduceLeDiff, ↓reduceIte, Int.reduceToNat, Nat.reduceGT, Int.reduceLE, Int.reduceLT, Int.reduceGE, Int.reduceGT, Int.reduceEq, Int.reduceNe, reduceCtorEq]
    have r := fun hp => children_calls t (by omega) hp
    simp only [TermG.av, TermG.cs_eq, termsAV] at r
    refine callX_by (r _) ?_
    clear r
    rintro r hp1 ⟨h7, rfl, rfl⟩
    simp only [go_sem, Nat.reduceEqDiff, Nat.reduceAdd, Nat.reduceSub, Nat.reduceLT, Nat.reduceMul, Nat.reduceBEq, Nat.reduceLeDiff, ↓reduceIte, Int.reduceToNat, Nat.reduceGT, Int.reduceLE, Int.reduceLT, Int.reduceGE, Int.reduceGT, Int.reduceEq, Int.reduceNe, reduceCtorEq]
    refine aw_loopX 24 (fun k : Nat => [(1, .v (.slice (some ⟨b, 0, none⟩) m.length m.length)), (14, .lst 6 h7 ((kids t).map TermG.av)), (15, .v (.int .i64 (kids t).length)), (16, .v (.int .i64 k))])
      (fun k => hp.setBlk b 4 (bvs (markL (markF m t) (((kids t).take k).flatMap preT)))) (fun k => k ≤ (kids t).length) (fun k => (kids t).length - k) 0 (Nat.zero_le _) (le_mkSl rfl (by simp only [go_sem, Nat.reduceEqDiff, Nat.reduceAdd, Nat.reduceSub, Nat.reduceLT, Nat.reduceMul, Nat.reduceBEq, Nat.reduceLeDiff, ↓reduceIte, Int.reduceToNat, Nat.reduceGT, Int.reduceLE, Int.reduceLT, Int.reduceGE, Int.reduceGT, Int.reduceEq, Int.reduceNe, reduceCtorEq, List.take_zero, List.flatMap_nil, markL, List.foldl_nil]; exact Hp.le_addSp _ _) (by simp [go_sem])) ?_
    intro k hk
    refine awp_sound (mu := []) _ _ _ ?_
    simp only [go_sem, Nat.reduceEqDiff, Nat.reduceAdd, Nat.reduceSub, Nat.reduceLT, Nat.reduceMul, Nat.reduceBEq, Nat.reduceLeDiff, ↓reduceIte, Int.reduceToNat, Nat.reduceGT, Int.reduceLE, Int.reduceLT, Int.reduceGE, Int.reduceGT, Int.reduceEq, Int.reduceNe, reduceCtorEq]
    refine brK_mk (fun b1 => ?_) (fun b1 => ?_) <;> simp only [go_sem, Nat.reduceEqDiff, Nat.reduceAdd, Nat.reduceSub, Nat.reduceLT, Nat.reduceMul, Nat.reduceBEq, Nat.reduceLeDiff, ↓reduceIte, Int.reduceToNat, Nat.reduceGT, Int.reduceLE, Int.reduceLT, Int.reduceGE, Int.reduceGT, Int.reduceEq, Int.reduceNe, reduceCtorEq, b1]
    · have hk' : k < (kids t).length := by simpa using b1
      obtain ⟨a, ha⟩ := someAt (kids t) k hk'
      have hmem := List.mem_of_getElem? ha
      have hwk : IntKind.i64.wrap ((k : Int) + 1) = ((k + 1 : Nat) : Int) := IntWalk.i64_in _ (by omega)
      have hlt := kids_lt hmem
      simp only [go_sem, Nat.reduceEqDiff, Nat.reduceAdd, Nat.reduceSub, Nat.reduceLT, Nat.reduceMul, Nat.reduceBEq, Nat.reduceLeDiff, ↓reduceIte, Int.reduceToNat, Nat.reduceGT, Int.reduceLE, Int.reduceLT, Int.reduceGE, Int.reduceGT, Int.reduceEq, Int.reduceNe, reduceCtorEq, mapAt TermG.av _ _ _ ha, TermG.av, TermG.cs_eq]
      intro v hv
      have hds := fun T cs => Hp.del_set _ _ T cs hv.1
      simp only [go_sem, Nat.reduceEqDiff, Nat.reduceAdd, Nat.reduceSub, Nat.reduceLT, Nat.reduceMul, Nat.reduceBEq, Nat.reduceLeDiff, ↓reduceIte, Int.reduceToNat, Nat.reduceGT, Int.reduceLE, Int.reduceLT, Int.reduceGE, Int.reduceGT, Int.reduceEq, Int.reduceNe, reduceCtorEq, hds]
      have hml : (markL (markF m t) (((kids t).take k).flatMap preT)).length = m.length := by rw [markL_len, markF_len]
      have r := hrec a (by omega) (by omega) hp b (markL (markF m t) (((kids t).take k).flatMap preT)) (by omega) (fun s hs ho => by
        rw [hml]; exact hc s (by rw [hkp]; exact List.mem_cons_of_mem _ (List.mem_flatMap.2 ⟨a, hmem, hs⟩)) ho)
      rw [hml] at r
      simp only [TermG.av, TermG.cs_eq] at r
      refine callX_by r ?_
      rintro r hp1 ⟨rfl, rfl⟩
      simp only [go_sem, Nat.reduceEqDiff, Nat.reduceAdd, Nat.reduceSub, Nat.reduceLT, Nat.reduceMul, Nat.reduceBEq, Nat.reduceLeDiff, ↓reduceIte, Int.reduceToNat, Nat.reduceGT, Int.reduceLE, Int.reduceLT, Int.reduceGE, Int.reduceGT, Int.reduceEq, Int.reduceNe, reduceCtorEq, hwk]
      exact ⟨k + 1, by omega, by omega, le_mkSl rfl (by simp only [go_sem, Nat.reduceEqDiff, Nat.reduceAdd, Nat.reduceSub, Nat.reduceLT, Nat.reduceMul, Nat.reduceBEq, Nat.reduceLeDiff, ↓reduceIte, Int.reduceToNat, Nat.reduceGT, Int.reduceLE, Int.reduceLT, Int.reduceGE, Int.reduceGT, Int.reduceEq, Int.reduceNe, reduceCtorEq]; rw [← markL_app, List.take_add_one, ha, List.flatMap_append]; simp only [Option.toList, List.flatMap_cons, List.flatMap_nil, List.append_nil]; exact Hp.le_refl _) (by simp [go_sem, hwk])⟩
    · have e2 : k = (kids t).length := by simp at b1; omega
      subst e2
      rw [List.take_length]
      exact ret_same ⟨rfl, by rw [hst]⟩
theorem refL_snoc {n : Nat} {l : List TermG} {k : Nat} : refL (k + 1) l = if callsIn l (k : Int) = true then refL k l ++ [(k : Int)] else refL k l := by
  rw [refL, List.range_succ, List.filter_append, List.map_append]
  by_cases h : callsIn l (k : Int) = true
  · rw [if_pos h]; simp [h, refL]
  · rw [if_neg h]; simp [h, refL]
theorem ones_lists (hs : List (Value × List Int)) : ((hs.map fun x => intsAV x.1 x.2).flatMap AV.cells).all AV.one = true := by
  induction hs with
  | nil => rfl
  | cons a l ih => rw [List.map_cons, List.flatMap_cons, List.all_append, ih]; rfl
theorem bvs_drop (l : List Bool) (i : Nat) (x : Bool) (h : l[i]? = some x) : (bvs l).drop i = .v (.bool x) :: (bvs l).drop (i + 1) := drop_at _ _ _ (by rw [bvs, List.getElem?_map, h]; rfl)
theorem bvs_rep (n : Nat) : ((List.replicate n [Value.bool false]).flatten.map AV.v) = bvs (List.replicate n false) := by
  induction n with
  | zero => rfl
  | succ n ih => rw [List.replicate_succ, List.flatten_cons, List.map_append, ih, List.replicate_succ]; rfl
theorem rowsAV_snoc {h' h7 : Value} {hs : List Value} {ls : List (List Int)} {l : List Int} (hl : hs.length = ls.length) : AV.lst 1 h' (((hs.zip ls).map fun x => intsAV x.1 x.2) ++ [intsAV h7 l]) = rowsAV h' (hs ++ [h7]) (ls ++ [l]) := by
  rw [rowsAV, List.zip_append hl]; simp
theorem callRows_take {p : ProgG} {k : Nat} {f : FunG} (h : p.fs[k]? = some f) : (callRows p).take (k + 1) = (callRows p).take k ++ [refL p.fs.length (preT f.body)] := by
  rw [List.take_add_one, callRows, List.getElem?_map, h]; rfl
theorem rcalls_calls (p : ProgG) (hno : ∀ f ∈ p.fs, nodesT f.body ≤ 5000) (hlen : p.fs.length ≤ 1000) (hc : ∀ f ∈ p.fs, ∀ s ∈ preT f.body, s.op = 9 → 0 ≤ s.n ∧ s.n < p.fs.length) (hp : Hp) :
    ACalls Tryz.prog 28 [p.av] hp (fun r hp' => (∃ h hs, hs.length = p.fs.length ∧ r = rowsAV h hs (callRows p)) ∧ hp' = hp) := by
  refine acalls_addNil 30 1 ?_
  refine acalls_of Tryz.func28 rfl (by decide +kernel) (awp_sound (mu := []) _ _ _ ?_)
  simp only [go_sem, Nat.reduceEqDiff, Nat.reduceAdd, Nat.reduceSub, Nat.reduceLT, Nat.reduceMul, Nat.reduceBEq, Nat.reduceLeDiff, ↓reduceIte, Int.reduceToNat, Nat.reduceGT, Int.reduceLE, Int.reduceLT, Int.reduceGE, Int.reduceGT, Int.reduceEq, Int.reduceNe, reduceCtorEq, ProgG.av, ProgG.cs, declsAV, funsAV]
  intro q1
  refine aw_loopX 44 (fun z : Nat × Value × List Value => [(1, .ref q1 [.lst 3 p.hd (p.ds.map DeclG.av), .lst 9 p.hf (p.fs.map FunG.av)]), (3, rowsAV z.2.1 z.2.2 ((callRows p).take z.1)), (11, .lst 9 p.hf (p.fs.map FunG.av)), (12, .v (.int .i64 p.fs.length)), (13, .v (.int .i64 z.1))])
    (fun z => hp.setSp ((30, 1, z.2.1) :: hp.sp)) (fun z => z.1 ≤ p.fs.length ∧ z.2.2.length = z.1) (fun z => p.fs.length - z.1) (0, .slice none 0 0, []) ⟨Nat.zero_le _, rfl⟩ (le_of_cast rfl (Hp.le_refl _) (by simp [go_sem, Cast.refl, rowsAV]; exact Cast.nil 1)) ?_
  rintro ⟨k, h3, hs⟩ ⟨hk, hhs⟩
  simp only at hk hhs
  refine awp_sound (mu := []) _ _ _ ?_
  simp only [go_sem, Nat.reduceEqDiff, Nat.reduceAdd, Nat.reduceSub, Nat.reduceLT, Nat.reduceMul, Nat.reduceBEq, Nat.reduceLeDiff, ↓reduceIte, Int.reduceToNat, Nat.reduceGT, Int.reduceLE, Int.reduceLT, Int.reduceGE, Int.reduceGT, Int.reduceEq, Int.reduceNe, reduceCtorEq]
  refine brK_mk (fun b1 => ?_) (fun b1 => ?_) <;> simp only [go_sem, Nat.reduceEqDiff, Nat.reduceAdd, Nat.reduceSub, Nat.reduceLT, Nat.reduceMul, Nat.reduceBEq, Nat.reduceLeDiff, ↓reduceIte, Int.reduceToNat, Nat.reduceGT, Int.reduceLE, Int.reduceLT, Int.reduceGE, Int.reduceGT, Int.reduceEq, Int.reduceNe, reduceCtorEq, b1]
  · have hk' : k < p.fs.length := by simpa using b1
    obtain ⟨f, hx⟩ := someAt p.fs k hk'
    have hmem := List.mem_of_getElem? hx
    have hwk : IntKind.i64.wrap ((k : Int) + 1) = ((k + 1 : Nat) : Int) := IntWalk.i64_in _ (by omega)
    simp only [go_sem, Nat.reduceEqDiff, Nat.reduceAdd, Nat.reduceSub, Nat.reduceLT, Nat.reduceMul, Nat.reduceBEq, Nat.reduceLeDiff, ↓reduceIte, Int.reduceToNat, Nat.reduceGT, Int.reduceLE, Int.reduceLT, Int.reduceGE, Int.reduceGT, Int.reduceEq, Int.reduceNe, reduceCtorEq, mapAt FunG.av _ _ _ hx, FunG.av, FunG.cs, paramsAV]
    intro v hv
    have hds := fun T cs => Hp.del_set _ _ T cs hv.1
    simp only [go_sem, Nat.reduceEqDiff, Nat.reduceAdd, Nat.reduceSub, Nat.reduceLT, Nat.reduceMul, Nat.reduceBEq, Nat.reduceLeDiff, ↓reduceIte, Int.reduceToNat, Nat.reduceGT, Int.reduceLE, Int.reduceLT, Int.reduceGE, Int.reduceGT, Int.reduceEq, Int.reduceNe, reduceCtorEq, hds, List.length_map]
    refine ⟨by simp only [maxLen]; omega, by omega, fun b hb => ?_⟩
    have hbn : hp.blk b = none := hb.1
    simp only [bvs_rep]
    have r := fun hp9 => calls_at (nodesT f.body) f.body (Nat.le_refl _) (hno f hmem) hp9 b (List.replicate p.fs.length false) (by rw [List.length_replicate]; exact hlen) (by rw [List.length_replicate]; exact hc f hmem)
    rw [List.length_replicate] at r
    simp only [TermG.av, TermG.cs_eq] at r
    refine callX_by (r _) ?_
    clear r
    rintro r hp1 ⟨rfl, rfl⟩
    obtain ⟨M, hM⟩ : ∃ M, markL (List.replicate p.fs.length false) (preT f.body) = M := ⟨_, rfl⟩
    have hMl : M.length = p.fs.length := by rw [← hM, markL_len, List.length_replicate]
    have hMa : ∀ i, i < p.fs.length → M[i]? = some (callsIn (preT f.body) (i : Int)) := fun i hi => by
      rw [← hM, markL_at i _ _ (by rw [List.length_replicate]; exact hi) (fun s hs ho => (hc f hmem s hs ho).1), List.getElem?_replicate, if_pos hi]; simp
    rw [hM]
    simp only [go_sem, Nat.reduceEqDiff, Nat.reduceAdd, Nat.reduceSub, Nat.reduceLT, Nat.reduceMul, Nat.reduceBEq, Nat.reduceLeDiff, ↓reduceIte, Int.reduceToNat, Nat.reduceGT, Int.reduceLE, Int.reduceLT, Int.reduceGE, Int.reduceGT, Int.reduceEq, Int.reduceNe, reduceCtorEq]
    refine addNil_by 3 1 ?_
    refine aw_loopX 44 (fun z : Nat × Value => [(1, .ref q1 [.lst 3 p.hd (p.ds.map DeclG.av), .lst 9 p.hf (p.fs.map FunG.av)]), (3, rowsAV h3 hs ((callRows p).take k)), (7, intsAV z.2 (refL z.1 (preT f.body))), (11, .lst 9 p.hf (p.fs.map FunG.av)), (12, .v (.int .i64 p.fs.length)), (13, .v (.int .i64 k)), (25, .v (.slice (some ⟨b, 0, none⟩) p.fs.length p.fs.length)), (26, .v (.int .i64 p.fs.length)), (27, .v (.int .i64 z.1))])
      (fun z => (hp.setSp ((3, 1, z.2) :: (30, 1, h3) :: hp.sp)).setBlk b 4 (bvs M)) (fun z => z.1 ≤ p.fs.length) (fun z => p.fs.length - z.1) (0, .slice none 0 0) (Nat.zero_le _) (le_of_cast rfl (by simp only [go_sem, Nat.reduceEqDiff, Nat.reduceAdd, Nat.reduceSub, Nat.reduceLT, Nat.reduceMul, Nat.reduceBEq, Nat.reduceLeDiff, ↓reduceIte, Int.reduceToNat, Nat.reduceGT, Int.reduceLE, Int.reduceLT, Int.reduceGE, Int.reduceGT, Int.reduceEq, Int.reduceNe, reduceCtorEq]; exact Hp.le_refl _) (by simp [go_sem, Cast.refl, intsAV, refL, rowsAV]; exact Cast.nil 1)) ?_
    rintro ⟨k2, h7⟩ hk2
    simp only at hk2
    refine awp_sound (mu := []) _ _ _ ?_
    simp only [go_sem, Nat.reduceEqDiff, Nat.reduceAdd, Nat.reduceSub, Nat.reduceLT, Nat.reduceMul, Nat.reduceBEq, Nat.reduceLeDiff, ↓reduceIte, Int.reduceToNat, Nat.reduceGT, Int.reduceLE, Int.reduceLT, Int.reduceGE, Int.reduceGT, Int.reduceEq, Int.reduceNe, reduceCtorEq]
    refine brK_mk (fun b2 => ?_) (fun b2 => ?_) <;> simp only [go_sem, Nat.reduceEqDiff, Nat.reduceAdd, Nat.reduceSub, Nat.reduceLT, Nat.reduceMul, Nat.reduceBEq, Nat.reduceLeDiff, ↓reduceIte, Int.reduceToNat, Nat.reduceGT, Int.reduceLE, Int.reduceLT, Int.reduceGE, Int.reduceGT, Int.reduceEq, Int.reduceNe, reduceCtorEq, b2]
    · have hk2' : k2 < p.fs.length := by simpa using b2
      have hwk2 : IntKind.i64.wrap ((k2 : Int) + 1) = ((k2 + 1 : Nat) : Int) := IntWalk.i64_in _ (by omega)
      have hrl := refL_len (k2 + 1) (preT f.body)
      have hsn := refL_snoc (n := 0) (l := preT f.body) (k := k2)
      refine ⟨by omega, ?_⟩
      rw [bvs_drop M k2 _ (hMa k2 hk2')]
      simp only [go_sem, Nat.reduceEqDiff, Nat.reduceAdd, Nat.reduceSub, Nat.reduceLT, Nat.reduceMul, Nat.reduceBEq, Nat.reduceLeDiff, ↓reduceIte, Int.reduceToNat, Nat.reduceGT, Int.reduceLE, Int.reduceLT, Int.reduceGE, Int.reduceGT, Int.reduceEq, Int.reduceNe, reduceCtorEq]
      refine brK_mk (fun b3 => ?_) (fun b3 => ?_) <;> simp only [go_sem, Nat.reduceEqDiff, Nat.reduceAdd, Nat.reduceSub, Nat.reduceLT, Nat.reduceMul, Nat.reduceBEq, Nat.reduceLeDiff, ↓reduceIte, Int.reduceToNat, Nat.reduceGT, Int.reduceLE, Int.reduceLT, Int.reduceGE, Int.reduceGT, Int.reduceEq, Int.reduceNe, reduceCtorEq, b3]
      · rw [if_pos b3] at hsn
        have hll : (refL k2 (preT f.body)).length ≤ p.fs.length := Nat.le_trans (refL_len _ _) (by omega)
        refine ⟨rfl, by simp, fun hd => ?_⟩
        refine append_by (a := intsAV h7 (refL k2 (preT f.body))) (b := .lst 1 hd [iv (k2 : Int)]) (l1 := [(3, 1, hd)]) (l2 := (30, 1, h3) :: hp.sp) (h := h7) (h2 := hd) Tryz.k30 Tryz.s3 Tryz.y3 Tryz.z3 rfl (by decide)
          (by simp [go_sem, intsAV]) (Cast.refl _) (by simp [go_sem, iv]) (Cast.refl _) (by simp [go_sem]) (by simp [go_sem, iv]) (by simp [maxLen]; omega) (by simp; omega) (by simp [go_sem]) (fun h' => ?_)
        simp only [go_sem, Nat.reduceEqDiff, Nat.reduceAdd, Nat.reduceSub, Nat.reduceLT, Nat.reduceMul, Nat.reduceBEq, Nat.reduceLeDiff, ↓reduceIte, Int.reduceToNat, Nat.reduceGT, Int.reduceLE, Int.reduceLT, Int.reduceGE, Int.reduceGT, Int.reduceEq, Int.reduceNe, reduceCtorEq, hwk2]
        refine ⟨(k2 + 1, h'), by simp only; omega, by simp only; omega, le_mkSl rfl ?_ (by rw [hsn]; simp [go_sem, hwk2, intsAV, iv])⟩
        simp only [go_sem, Nat.reduceEqDiff, Nat.reduceAdd, Nat.reduceSub, Nat.reduceLT, Nat.reduceMul, Nat.reduceBEq, Nat.reduceLeDiff, ↓reduceIte, Int.reduceToNat, Nat.reduceGT, Int.reduceLE, Int.reduceLT, Int.reduceGE, Int.reduceGT, Int.reduceEq, Int.reduceNe, reduceCtorEq]
        exact ⟨fun _ _ h => h, fun _ _ h => h, List.sublist_cons_self _ _, fun _ h => h⟩
      · rw [if_neg (by rw [b3]; decide)] at hsn
        simp only [hwk2]
        exact ⟨(k2 + 1, h7), by simp only; omega, by simp only; omega, le_mkSl rfl (by simp only [go_sem, Nat.reduceEqDiff, Nat.reduceAdd, Nat.reduceSub, Nat.reduceLT, Nat.reduceMul, Nat.reduceBEq, Nat.reduceLeDiff, ↓reduceIte, Int.reduceToNat, Nat.reduceGT, Int.reduceLE, Int.reduceLT, Int.reduceGE, Int.reduceGT, Int.reduceEq, Int.reduceNe, reduceCtorEq]; exact Hp.le_refl _) (by rw [hsn]; simp [go_sem, hwk2, intsAV])⟩
    · have e3 : k2 = p.fs.length := by simp at b2; omega
      subst e3
      have hlz : (hs.zip ((callRows p).take k)).length = k := by rw [List.length_zip, List.length_take, callRows, List.length_map]; omega
      have hlt : hs.length = ((callRows p).take k).length := by rw [List.length_take, callRows, List.length_map]; omega
      refine ⟨rfl, fun x hx => ?_, fun hd => ?_⟩
      · rw [List.mem_singleton] at hx; subst hx; rfl
      refine append_by (a := rowsAV h3 hs ((callRows p).take k)) (b := .lst 1 hd [intsAV h7 (refL p.fs.length (preT f.body))]) (l1 := [(30, 1, hd), (3, 1, h7)]) (l2 := hp.sp) (h := h3) (h2 := hd) Tryz.k54 Tryz.s30 Tryz.y30 Tryz.z30 rfl (by decide)
        (by simp [go_sem, rowsAV]) (Cast.refl _) (by simp [go_sem, intsAV]) (Cast.refl _) (by simp [go_sem]) (ones_lists [(h7, refL p.fs.length (preT f.body))]) (by rw [List.length_map, hlz]; simp [maxLen]; omega) (by rw [List.length_map, hlz]; simp; omega) (by simp [go_sem]) (fun h' => ?_)
      simp only [go_sem, Nat.reduceEqDiff, Nat.reduceAdd, Nat.reduceSub, Nat.reduceLT, Nat.reduceMul, Nat.reduceBEq, Nat.reduceLeDiff, ↓reduceIte, Int.reduceToNat, Nat.reduceGT, Int.reduceLE, Int.reduceLT, Int.reduceGE, Int.reduceGT, Int.reduceEq, Int.reduceNe, reduceCtorEq, hwk]
      refine ⟨(k + 1, h', hs ++ [h7]), by simp only; omega, ⟨by simp only; omega, by simp [hhs]⟩, le_mkSl rfl ?_ (by rw [callRows_take hx, ← rowsAV_snoc hlt]; simp [go_sem, hwk])⟩
      simp only [go_sem, Nat.reduceEqDiff, Nat.reduceAdd, Nat.reduceSub, Nat.reduceLT, Nat.reduceMul, Nat.reduceBEq, Nat.reduceLeDiff, ↓reduceIte, Int.reduceToNat, Nat.reduceGT, Int.reduceLE, Int.reduceLT, Int.reduceGE, Int.reduceGT, Int.reduceEq, Int.reduceNe, reduceCtorEq]
      refine ⟨fun i z hz => ?_, fun _ _ h => h, ?_, fun _ h => h⟩
      · have hz : hp.blk i = some z := hz
        have e9 : i ≠ b := fun e => by rw [e, hbn] at hz; cases hz
        simpa [Hp.setBlk, Hp.setSp, e9] using hz
      · repeat first | exact List.Sublist.refl _ | apply List.Sublist.cons
  · have e2 : k = p.fs.length := by simp at b1; omega
    subst e2
    rw [List.take_of_length_le (by rw [callRows, List.length_map]; exact Nat.le_refl _)]
    exact ret_le (Hp.le_addSp _ _) ⟨⟨h3, hs, hhs, rfl⟩, rfl⟩
theorem rowsAV_at {hs : List Value} {ls : List (List Int)} {k : Nat} {h : Value} {l : List Int} (h1 : hs[k]? = some h) (h2 : ls[k]? = some l) : ((hs.zip ls).map fun x => intsAV x.1 x.2)[k]? = some (intsAV h l) := by
  rw [List.getElem?_map]
  have : (hs.zip ls)[k]? = some (h, l) := by rw [List.getElem?_zip_eq_some]; exact ⟨h1, h2⟩
  rw [this]; rfl
theorem sameLists_calls (ha hb : Value) (hs hs' : List Value) (a : List (List Int)) (h1 : hs.length = a.length) (h2 : hs'.length = a.length) (hl : a.length ≤ 1000) (hp : Hp) : ACalls Tryz.prog 27 [rowsAV ha hs a, rowsAV hb hs' a] hp (fun r hp' => r = .v (.bool true) ∧ hp' = hp) := by
  have hz1 : (hs.zip a).length = a.length := by rw [List.length_zip]; omega
  have hz2 : (hs'.zip a).length = a.length := by rw [List.length_zip]; omega
  refine acalls_of Tryz.func27 rfl (by decide +kernel) (awp_sound (mu := []) _ _ _ ?_)
  simp only [go_sem, Nat.reduceEqDiff, Nat.reduceAdd, Nat.reduceSub, Nat.reduceLT, Nat.reduceMul, Nat.reduceBEq, Nat.reduceLeDiff, ↓reduceIte, Int.reduceToNat, Nat.reduceGT, Int.reduceLE, Int.reduceLT, Int.reduceGE, Int.reduceGT, Int.reduceEq, Int.reduceNe, reduceCtorEq, rowsAV, List.length_map, hz1, hz2, decide_true]
  refine aw_loopX 27 (fun k : Nat => [(0, rowsAV ha hs a), (1, rowsAV hb hs' a), (12, .v (.int .i64 a.length)), (13, .v (.int .i64 k))]) (fun _ => hp) (fun k => k ≤ a.length) (fun k => a.length - k) 0 (Nat.zero_le _) (le_mkSl rfl (Hp.le_refl _) (by simp [go_sem, rowsAV, hz1])) ?_
  intro k hk
  refine awp_sound (mu := []) _ _ _ ?_
  simp only [go_sem, Nat.reduceEqDiff, Nat.reduceAdd, Nat.reduceSub, Nat.reduceLT, Nat.reduceMul, Nat.reduceBEq, Nat.reduceLeDiff, ↓reduceIte, Int.reduceToNat, Nat.reduceGT, Int.reduceLE, Int.reduceLT, Int.reduceGE, Int.reduceGT, Int.reduceEq, Int.reduceNe, reduceCtorEq]
  refine brK_mk (fun b1 => ?_) (fun b1 => ?_) <;> simp only [go_sem, Nat.reduceEqDiff, Nat.reduceAdd, Nat.reduceSub, Nat.reduceLT, Nat.reduceMul, Nat.reduceBEq, Nat.reduceLeDiff, ↓reduceIte, Int.reduceToNat, Nat.reduceGT, Int.reduceLE, Int.reduceLT, Int.reduceGE, Int.reduceGT, Int.reduceEq, Int.reduceNe, reduceCtorEq, b1]
  · have hk' : k < a.length := by simpa using b1
    obtain ⟨x, hx⟩ := someAt a k hk'
    obtain ⟨v1, hv1⟩ := someAt hs k (by omega)
    obtain ⟨v2, hv2⟩ := someAt hs' k (by omega)
    have hwk : IntKind.i64.wrap ((k : Int) + 1) = ((k + 1 : Nat) : Int) := IntWalk.i64_in _ (by omega)
    refine draw_by (mu := []) (fun _ => True) (.take 0 (.take 1 (.take 2 (.take 3 (.take 4 (.take 5 (.take 6 (.take 7 (.br 8 (.take 9 (.done)) (.stop)))))))))) (by decide +kernel) trivial (by decide +kernel) (by decide +kernel) ?_
    simp only [go_sem, Nat.reduceEqDiff, Nat.reduceAdd, Nat.reduceSub, Nat.reduceLT, Nat.reduceMul, Nat.reduceBEq, Nat.reduceLeDiff, ↓reduceIte, Int.reduceToNat, Nat.reduceGT, Int.reduceLE, Int.reduceLT, Int.reduceGE, Int.reduceGT, Int.reduceEq, Int.reduceNe, reduceCtorEq, rowsAV, rowsAV_at hv1 hx, rowsAV_at hv2 hx]
    simp only [go_sem, Nat.reduceEqDiff, Nat.reduceAdd, Nat.reduceSub, Nat.reduceLT, Nat.reduceMul, Nat.reduceBEq, Nat.reduceLeDiff, ↓reduceIte, Int.reduceToNat, Nat.reduceGT, Int.reduceLE, Int.reduceLT, Int.reduceGE, Int.reduceGT, Int.reduceEq, Int.reduceNe, reduceCtorEq, intsAV]
    have c := sameInts_calls v1 v2 x x hp
    simp only [intsAV, decide_true] at c
    refine callX_by c ?_
    rintro r hp1 ⟨rfl, rfl⟩
    simp only [go_sem, Nat.reduceEqDiff, Nat.reduceAdd, Nat.reduceSub, Nat.reduceLT, Nat.reduceMul, Nat.reduceBEq, Nat.reduceLeDiff, ↓reduceIte, Int.reduceToNat, Nat.reduceGT, Int.reduceLE, Int.reduceLT, Int.reduceGE, Int.reduceGT, Int.reduceEq, Int.reduceNe, reduceCtorEq, hwk]
    exact ⟨k + 1, by omega, by omega, le_mkSl rfl (Hp.le_refl _) (by simp [go_sem, hwk, rowsAV, intsAV])⟩
  · have e2 : k = a.length := by simp at b1; omega
    exact ret_same ⟨rfl, rfl⟩
end Go.Proofs.YtppoacgeiooppaaGreat
/- The law of the layer 'term': TermForms. -/
set_option linter.unusedSimpArgs false
set_option linter.unusedVariables false
set_option maxRecDepth 20000
set_option maxHeartbeats 4000000
namespace Go.Proofs.YtppoacgeiooppaaGreat
open Go.AL

theorem termForms_calls (p : ProgG) (hpf : PFit p) (hp : Hp) (hg : GOk hp) : ACalls Tryz.prog 5 [p.av] hp (fun r hp' => r = .v (.bool true) ∧ hp' = hp) := by
  refine acalls_of Tryz.func5 rfl (by decide +kernel) (awp_sound (mu := []) _ _ _ ?_)
  simp only [go_sem, Nat.reduceEqDiff, Nat.reduceAdd, Nat.reduceSub, Nat.reduceLT, Nat.reduceMul, Nat.reduceBEq, Nat.reduceLeDiff, ↓reduceIte, Int.reduceToNat, Nat.reduceGT, Int.reduceLE, Int.reduceLT, Int.reduceGE, Int.reduceGT, Int.reduceEq, Int.reduceNe, reduceCtorEq, ProgG.av, ProgG.cs, declsAV, funsAV]
  intro q1
  have aw : ∀ hp, GOk hp → ACalls Tryz.prog 22 [] hp (fun r hp' => r = .v (.bool true) ∧ hp' = hp) := fun hp hg => awake2_calls hp hg
  have c := fun hp => few_calls p 700 (by omega) hp
  have ck := fun hp (hg : GOk hp) => checkP_calls p hpf hp hg
  have cn := fun hp (hg : GOk hp) => nodesP_calls p hpf hp hg
  have cl := fun hp (hg : GOk hp) => callsV_calls p hpf hp hg
  have ci := fun hp => ris2_calls p hpf hp
  simp only [ProgG.av, ProgG.cs, declsAV, funsAV] at c ck cn cl ci
  refine callX_by (c _) ?_
  rintro r hp1 ⟨rfl, rfl⟩
  simp only [go_sem, Nat.reduceEqDiff, Nat.reduceAdd, Nat.reduceSub, Nat.reduceLT, Nat.reduceMul, Nat.reduceBEq, Nat.reduceLeDiff, ↓reduceIte, Int.reduceToNat, Nat.reduceGT, Int.reduceLE, Int.reduceLT, Int.reduceGE, Int.reduceGT, Int.reduceEq, Int.reduceNe, reduceCtorEq]
  refine brK_mk (fun b1 => ?_) (fun b1 => ?_) <;> simp only [go_sem, Nat.reduceEqDiff, Nat.reduceAdd, Nat.reduceSub, Nat.reduceLT, Nat.reduceMul, Nat.reduceBEq, Nat.reduceLeDiff, ↓reduceIte, Int.reduceToNat, Nat.reduceGT, Int.reduceLE, Int.reduceLT, Int.reduceGE, Int.reduceGT, Int.reduceEq, Int.reduceNe, reduceCtorEq, b1]
  · refine callX_by (ck _ hg) ?_
    rintro r hp2 ⟨rfl, rfl⟩
    simp only [go_sem, Nat.reduceEqDiff, Nat.reduceAdd, Nat.reduceSub, Nat.reduceLT, Nat.reduceMul, Nat.reduceBEq, Nat.reduceLeDiff, ↓reduceIte, Int.reduceToNat, Nat.reduceGT, Int.reduceLE, Int.reduceLT, Int.reduceGE, Int.reduceGT, Int.reduceEq, Int.reduceNe, reduceCtorEq]
    refine callX_by (cn _ hg) ?_
    rintro r hp2 ⟨rfl, rfl⟩
    simp only [go_sem, Nat.reduceEqDiff, Nat.reduceAdd, Nat.reduceSub, Nat.reduceLT, Nat.reduceMul, Nat.reduceBEq, Nat.reduceLeDiff, ↓reduceIte, Int.reduceToNat, Nat.reduceGT, Int.reduceLE, Int.reduceLT, Int.reduceGE, Int.reduceGT, Int.reduceEq, Int.reduceNe, reduceCtorEq]
    refine callX_by (cl _ hg) ?_
    rintro r hp2 ⟨hcv, rfl⟩
    by_cases hv : progB p = true
    · rw [CallsV, if_pos hv] at hcv
      obtain ⟨h, hs, hhs, rfl⟩ := hcv
      simp only [go_sem, Nat.reduceEqDiff, Nat.reduceAdd, Nat.reduceSub, Nat.reduceLT, Nat.reduceMul, Nat.reduceBEq, Nat.reduceLeDiff, ↓reduceIte, Int.reduceToNat, Nat.reduceGT, Int.reduceLE, Int.reduceLT, Int.reduceGE, Int.reduceGT, Int.reduceEq, Int.reduceNe, reduceCtorEq, rowsAV, hv, if_true]
      refine callX_by (ci _) ?_
      rintro r hp2 ⟨rfl, rfl⟩
      simp only [go_sem, Nat.reduceEqDiff, Nat.reduceAdd, Nat.reduceSub, Nat.reduceLT, Nat.reduceMul, Nat.reduceBEq, Nat.reduceLeDiff, ↓reduceIte, Int.reduceToNat, Nat.reduceGT, Int.reduceLE, Int.reduceLT, Int.reduceGE, Int.reduceGT, Int.reduceEq, Int.reduceNe, reduceCtorEq, hv]
      have hno : ∀ f ∈ p.fs, nodesT f.body ≤ 5000 := fun f hf => by have := (prog_body hv f hf).1; omega
      have cc := fun hp => rcount_calls p hno (prog_nodes hv) hp
      have rc := fun hp => rcalls_calls p hno (by have := prog_len hv; omega) (prog_calls hv) hp
      simp only [ProgG.av, ProgG.cs, declsAV, funsAV] at cc rc
      refine callX_by (cc _) ?_
      rintro r hp2 ⟨rfl, rfl⟩
      simp only [go_sem, Nat.reduceEqDiff, Nat.reduceAdd, Nat.reduceSub, Nat.reduceLT, Nat.reduceMul, Nat.reduceBEq, Nat.reduceLeDiff, ↓reduceIte, Int.reduceToNat, Nat.reduceGT, Int.reduceLE, Int.reduceLT, Int.reduceGE, Int.reduceGT, Int.reduceEq, Int.reduceNe, reduceCtorEq, decide_true]
      refine callX_by (rc _) ?_
      rintro r hp2 ⟨⟨h', hs', hhs', rfl⟩, rfl⟩
      simp only [go_sem, Nat.reduceEqDiff, Nat.reduceAdd, Nat.reduceSub, Nat.reduceLT, Nat.reduceMul, Nat.reduceBEq, Nat.reduceLeDiff, ↓reduceIte, Int.reduceToNat, Nat.reduceGT, Int.reduceLE, Int.reduceLT, Int.reduceGE, Int.reduceGT, Int.reduceEq, Int.reduceNe, reduceCtorEq, rowsAV]
      have sl := sameLists_calls h h' hs hs' (callRows p) (by rw [hhs, callRows, List.length_map]) (by rw [hhs', callRows, List.length_map]) (by rw [callRows, List.length_map]; have := prog_len hv; omega) hp2
      simp only [rowsAV] at sl
      refine callX_by sl ?_
      rintro r hp3 ⟨rfl, rfl⟩
      simp only [go_sem, Nat.reduceEqDiff, Nat.reduceAdd, Nat.reduceSub, Nat.reduceLT, Nat.reduceMul, Nat.reduceBEq, Nat.reduceLeDiff, ↓reduceIte, Int.reduceToNat, Nat.reduceGT, Int.reduceLE, Int.reduceLT, Int.reduceGE, Int.reduceGT, Int.reduceEq, Int.reduceNe, reduceCtorEq]
      refine callX_by (aw _ hg) ?_
      rintro r hp3 ⟨rfl, rfl⟩
      simp only [go_sem, Nat.reduceEqDiff, Nat.reduceAdd, Nat.reduceSub, Nat.reduceLT, Nat.reduceMul, Nat.reduceBEq, Nat.reduceLeDiff, ↓reduceIte, Int.reduceToNat, Nat.reduceGT, Int.reduceLE, Int.reduceLT, Int.reduceGE, Int.reduceGT, Int.reduceEq, Int.reduceNe, reduceCtorEq]
      exact ret_same ⟨rfl, rfl⟩
    · have hv' : progB p = false := by simpa using hv
      rw [CallsV, if_neg hv] at hcv
      subst hcv
      simp only [go_sem, Nat.reduceEqDiff, Nat.reduceAdd, Nat.reduceSub, Nat.reduceLT, Nat.reduceMul, Nat.reduceBEq, Nat.reduceLeDiff, ↓reduceIte, Int.reduceToNat, Nat.reduceGT, Int.reduceLE, Int.reduceLT, Int.reduceGE, Int.reduceGT, Int.reduceEq, Int.reduceNe, reduceCtorEq, hv', if_false, Bool.false_eq_true]
      refine callX_by (ci _) ?_
      rintro r hp2 ⟨rfl, rfl⟩
      simp only [go_sem, Nat.reduceEqDiff, Nat.reduceAdd, Nat.reduceSub, Nat.reduceLT, Nat.reduceMul, Nat.reduceBEq, Nat.reduceLeDiff, ↓reduceIte, Int.reduceToNat, Nat.reduceGT, Int.reduceLE, Int.reduceLT, Int.reduceGE, Int.reduceGT, Int.reduceEq, Int.reduceNe, reduceCtorEq, hv']
      refine callX_by (aw _ hg) ?_
      rintro r hp3 ⟨rfl, rfl⟩
      simp only [go_sem, Nat.reduceEqDiff, Nat.reduceAdd, Nat.reduceSub, Nat.reduceLT, Nat.reduceMul, Nat.reduceBEq, Nat.reduceLeDiff, ↓reduceIte, Int.reduceToNat, Nat.reduceGT, Int.reduceLE, Int.reduceLT, Int.reduceGE, Int.reduceGT, Int.reduceEq, Int.reduceNe, reduceCtorEq]
      exact ret_same ⟨rfl, rfl⟩
  · refine callX_by (aw _ hg) ?_
    rintro r hp3 ⟨rfl, rfl⟩
    simp only [go_sem, Nat.reduceEqDiff, Nat.reduceAdd, Nat.reduceSub, Nat.reduceLT, Nat.reduceMul, Nat.reduceBEq, Nat.reduceLeDiff, ↓reduceIte, Int.reduceToNat, Nat.reduceGT, Int.reduceLE, Int.reduceLT, Int.reduceGE, Int.reduceGT, Int.reduceEq, Int.reduceNe, reduceCtorEq]
    exact ret_same ⟨rfl, rfl⟩
end Go.Proofs.YtppoacgeiooppaaGreat
