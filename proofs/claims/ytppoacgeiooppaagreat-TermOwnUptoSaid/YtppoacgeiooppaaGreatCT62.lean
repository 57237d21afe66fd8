/- The reference of the layer 'term': CopyProg and SameProg. -/
import Derived.Test.YtppoacgeiooppaaGreatCT61
import Derived.Test.YtppoacgeiooppaaGreatCT43
import Derived.Test.YtppoacgeiooppaaGreatCT51
set_option linter.unusedSimpArgs false
set_option linter.unusedVariables false
set_option maxRecDepth 20000
set_option maxHeartbeats 4000000
namespace Go.Proofs.YtppoacgeiooppaaGreat
open Go.AL

theorem copyFit_of {p : ProgG} (h : p.small) : CopyFit p.ds := by
  have hR : reachBytes = 140737488351232 := rfl
  refine ⟨by have := h.dl; omega, fun d hd => ?_, fun d hd x hx => ?_⟩
  · have := (h.ds d hd).1; omega
  · have : x.args.length * 16 ≤ reachBytes := (h.ds d hd).2 x hx; omega
theorem ones_funs (l : List FunG) : ((l.map FunG.av).flatMap AV.cells).all AV.one = true := by
  induction l with
  | nil => rfl
  | cons a l ih =>
    rw [List.map_cons, List.flatMap_cons, List.all_append, ih, FunG.av]; rfl
def pZero : List AV := [.v (.slice none 0 0), .v (.slice none 0 0)]
def pOut (h : Value) (ds : List DeclG) (hf : Value) (fs : List FunG) : List AV := [declsAV h ds, funsAV hf fs]
def cqHp (hp : Hp) (b2 b3 : Nat) (h : Value) (ds : List DeclG) (hf : Value) (fs : List FunG) : Hp := ((hp.setSp ((71, 9, hf) :: hp.sp)).setBlk b2 25 pZero).setBlk b3 25 (pOut h ds hf fs)
theorem copyProg_calls (p : ProgG) (hsm : p.small) (hlen : p.fs.length ≤ 40) (hno : ∀ f ∈ p.fs, nodesT f.body ≤ 5000) (hp : Hp) : ACalls Tryz.prog 30 [p.av] hp (fun r hp' => (∃ q : ProgG, r = q.av ∧ SameP p q) ∧ hp' = hp) := by
  refine acalls_addNil 71 9 ?_
  refine acalls_of Tryz.func30 rfl (by decide +kernel) (awp_sound (mu := [3, 32]) _ _ _ ?_)
  simp only [go_sem, Nat.reduceEqDiff, Nat.reduceAdd, Nat.reduceSub, Nat.reduceLT, Nat.reduceMul, Nat.reduceBEq, Nat.reduceLeDiff, ↓reduceIte, Int.reduceToNat, Nat.reduceGT, Int.reduceLE, Int.reduceLT, Int.reduceGE, Int.reduceGT, Int.reduceEq, Int.reduceNe, reduceCtorEq, ProgG.av, ProgG.cs, declsAV, funsAV]
  intro q1 b2 hb2
  have hn2 : hp.blk b2 = none := hb2.1
  have c := fun hp => copy_calls p.hd p.ds (copyFit_of hsm) hp
  simp only [declsAV] at c
  refine callX_by (c _) ?_
  clear c
  rintro r hp1 ⟨hD, D, rfl, hDD, rfl⟩
  simp only [go_sem, Nat.reduceEqDiff, Nat.reduceAdd, Nat.reduceSub, Nat.reduceLT, Nat.reduceMul, Nat.reduceBEq, Nat.reduceLeDiff, ↓reduceIte, Int.reduceToNat, Nat.reduceGT, Int.reduceLE, Int.reduceLT, Int.reduceGE, Int.reduceGT, Int.reduceEq, Int.reduceNe, reduceCtorEq, spD, declsAV]
  intro b3 hb3
  have hne : b3 ≠ b2 := by rintro rfl; have := hb3.1; simp [Hp.setBlk, Hp.setSp] at this
  have hn3 : hp.blk b3 = none := by have := hb3.1; simpa [Hp.setBlk, Hp.setSp, hne] using this
  refine castBlk_by b3 25 [.lst 3 hD (D.map DeclG.av), .v (.slice none 0 0)] (pOut hD D (.slice none 0 0) []) (by simp [Hp.setBlk, St.setHp, go_sem]) rfl
    (fun m h => ⟨h.1, (Cast.nil 9).2 m trivial, trivial⟩) ?_
  refine aw_loopX 35 (fun x : Nat × Value × List FunG => [(1, .ref q1 [.lst 3 p.hd (p.ds.map DeclG.av), .lst 9 p.hf (p.fs.map FunG.av)]), (2, .v (.pointer (some ⟨b2, 0, none⟩))), (3, .v (.pointer (some ⟨b3, 0, none⟩))), (11, .lst 9 p.hf (p.fs.map FunG.av)), (12, .v (.int .i64 p.fs.length)), (13, .v (.int .i64 x.1))])
    (fun x => cqHp hp b2 b3 hD D x.2.1 x.2.2) (fun x => x.1 ≤ p.fs.length ∧ x.2.2.map FunG.bare = (p.fs.take x.1).map FunG.bare) (fun x => p.fs.length - x.1) (0, .slice none 0 0, []) ⟨Nat.zero_le _, rfl⟩
    (le_mkSl rfl ⟨fun i x hi => by
      simp only [go_sem, Nat.reduceEqDiff, Nat.reduceAdd, Nat.reduceSub, Nat.reduceLT, Nat.reduceMul, Nat.reduceBEq, Nat.reduceLeDiff, ↓reduceIte, Int.reduceToNat, Nat.reduceGT, Int.reduceLE, Int.reduceLT, Int.reduceGE, Int.reduceGT, Int.reduceEq, Int.reduceNe, reduceCtorEq] at hi ⊢
      simp only [cqHp, Hp.setBlk, Hp.setSp] at hi ⊢
      by_cases e3 : i = b3
      · simpa [e3] using hi
      · by_cases e2 : i = b2
        · subst e2; simpa [e3, pZero] using hi
        · simpa [e3, e2] using hi, fun _ _ h => h, List.sublist_cons_self _ _, fun _ h => h⟩ (by simp [go_sem])) ?_
  rintro ⟨k, hF, F⟩ ⟨hk, hFk⟩
  simp only at hk hFk
  have hFl : F.length = k := by have := congrArg List.length hFk; simp at this; omega
  have hbk : (cqHp hp b2 b3 hD D hF F).blk b3 = some (25, pOut hD D hF F) := by simp [cqHp, Hp.setBlk]
  simp only [pOut, declsAV, funsAV] at hbk
  have hbk2 : (cqHp hp b2 b3 hD D hF F).blk b2 = some (25, pZero) := by simp [cqHp, Hp.setBlk, Ne.symm hne]
  simp only [pZero] at hbk2
  refine awp_sound (mu := [3, 32]) _ _ _ ?_
  simp only [go_sem, Nat.reduceEqDiff, Nat.reduceAdd, Nat.reduceSub, Nat.reduceLT, Nat.reduceMul, Nat.reduceBEq, Nat.reduceLeDiff, ↓reduceIte, Int.reduceToNat, Nat.reduceGT, Int.reduceLE, Int.reduceLT, Int.reduceGE, Int.reduceGT, Int.reduceEq, Int.reduceNe, reduceCtorEq]
  refine brK_mk (fun b1 => ?_) (fun b1 => ?_) <;> simp only [go_sem, Nat.reduceEqDiff, Nat.reduceAdd, Nat.reduceSub, Nat.reduceLT, Nat.reduceMul, Nat.reduceBEq, Nat.reduceLeDiff, ↓reduceIte, Int.reduceToNat, Nat.reduceGT, Int.reduceLE, Int.reduceLT, Int.reduceGE, Int.reduceGT, Int.reduceEq, Int.reduceNe, reduceCtorEq, b1]
  · have hk' : k < p.fs.length := by simpa using b1
    obtain ⟨f, hf⟩ := someAt p.fs k hk'
    have hmem := List.mem_of_getElem? hf
    have hpl := (hsm.fs f hmem).ps
    have hfb := (hsm.fs f hmem).body
    have hfn := hno f hmem
    have hR : reachBytes = 140737488351232 := rfl
    have hwk : IntKind.i64.wrap ((k : Int) + 1) = ((k + 1 : Nat) : Int) := IntWalk.i64_in _ (by omega)
    simp only [go_sem, Nat.reduceEqDiff, Nat.reduceAdd, Nat.reduceSub, Nat.reduceLT, Nat.reduceMul, Nat.reduceBEq, Nat.reduceLeDiff, ↓reduceIte, Int.reduceToNat, Nat.reduceGT, Int.reduceLE, Int.reduceLT, Int.reduceGE, Int.reduceGT, Int.reduceEq, Int.reduceNe, reduceCtorEq, mapAt FunG.av _ _ _ hf, FunG.av, FunG.cs, paramsAV]
    intro v hv
    have hdv := fun T cs => Hp.del_set _ _ T cs hv.1
    simp only [hdv]
    refine draw_by (mu := [3, 32]) (fun _ => True) (.take 0 (.take 2 (.take 3 (.take 4 (.take 5 (.take 7 (.take 8 (.take 9 (.take 10 (.br 1 (.br 6 (.br 11 (.br 12 (.br 13 (.br 14 (.take 15 (.br 16 (.done) (.stop))) (.stop)) (.stop)) (.stop)) (.stop)) (.stop)) (.br 6 (.br 1 (.br 11 (.br 12 (.br 13 (.br 14 (.take 15 (.br 16 (.done) (.stop))) (.stop)) (.stop)) (.stop)) (.stop)) (.br 11 (.br 1 (.br 12 (.br 13 (.br 14 (.take 15 (.br 16 (.done) (.stop))) (.stop)) (.stop)) (.stop)) (.br 12 (.br 1 (.br 13 (.br 14 (.take 15 (.br 16 (.done) (.stop))) (.stop)) (.stop)) (.br 13 (.br 1 (.br 14 (.take 15 (.br 16 (.done) (.stop))) (.stop)) (.stop)) (.stop))) (.stop))) (.stop))) (.stop)))))))))))) (by decide +kernel) trivial (by decide +kernel) (by decide +kernel) ?_
    simp only [go_sem, Nat.reduceEqDiff, Nat.reduceAdd, Nat.reduceSub, Nat.reduceLT, Nat.reduceMul, Nat.reduceBEq, Nat.reduceLeDiff, ↓reduceIte, Int.reduceToNat, Nat.reduceGT, Int.reduceLE, Int.reduceLT, Int.reduceGE, Int.reduceGT, Int.reduceEq, Int.reduceNe, reduceCtorEq, hbk]
    have c := fun hp => copyT_calls (nodesT f.body) f.body (Nat.le_refl _) hfn hfb hp
    simp only [TermG.av, TermG.cs_eq] at c
    repeat' first
      | with_reducible exact trivial
      | (refine callX_by (c _) ?_; rintro r hp1 ⟨⟨a', rfl, ha'⟩, rfl⟩; try simp only [go_sem, Nat.reduceEqDiff, Nat.reduceAdd, Nat.reduceSub, Nat.reduceLT, Nat.reduceMul, Nat.reduceBEq, Nat.reduceLeDiff, ↓reduceIte, Int.reduceToNat, Nat.reduceGT, Int.reduceLE, Int.reduceLT, Int.reduceGE, Int.reduceGT, Int.reduceEq, Int.reduceNe, reduceCtorEq, hbk])
      | (refine ⟨rfl, by simp, fun hd => ?_⟩; try simp only [go_sem, Nat.reduceEqDiff, Nat.reduceAdd, Nat.reduceSub, Nat.reduceLT, Nat.reduceMul, Nat.reduceBEq, Nat.reduceLeDiff, ↓reduceIte, Int.reduceToNat, Nat.reduceGT, Int.reduceLE, Int.reduceLT, Int.reduceGE, Int.reduceGT, Int.reduceEq, Int.reduceNe, reduceCtorEq, hbk])
      | (refine append0_by Tryz.k37 Tryz.s81 Tryz.y81 Tryz.z81 rfl (by decide) rfl (Cast.nil 2) rfl (Cast.refl _) (ones_params2 _) (by simp [maxLen]; omega) (by simp; omega) (by simp [go_sem]) (fun hn' => ?_); try simp only [go_sem, Nat.reduceEqDiff, Nat.reduceAdd, Nat.reduceSub, Nat.reduceLT, Nat.reduceMul, Nat.reduceBEq, Nat.reduceLeDiff, ↓reduceIte, Int.reduceToNat, Nat.reduceGT, Int.reduceLE, Int.reduceLT, Int.reduceGE, Int.reduceGT, Int.reduceEq, Int.reduceNe, reduceCtorEq, hbk])
      | (refine append_at 2 Tryz.k23 Tryz.s71 Tryz.y71 Tryz.z71 rfl (by decide) rfl (by first | exact Cast.refl _ | exact Cast.nil 9) rfl (Cast.refl _) rfl (by first | rfl | exact ones_funs [_]) (by simp [maxLen]; omega) (by simp; omega) (by simp [go_sem]) (fun hC' => ?_); try simp only [go_sem, Nat.reduceEqDiff, Nat.reduceAdd, Nat.reduceSub, Nat.reduceLT, Nat.reduceMul, Nat.reduceBEq, Nat.reduceLeDiff, ↓reduceIte, Int.reduceToNat, Nat.reduceGT, Int.reduceLE, Int.reduceLT, Int.reduceGE, Int.reduceGT, Int.reduceEq, Int.reduceNe, reduceCtorEq, hbk, hwk])
      | (refine append_at 1 Tryz.k23 Tryz.s71 Tryz.y71 Tryz.z71 rfl (by decide) rfl (by first | exact Cast.refl _ | exact Cast.nil 9) rfl (Cast.refl _) rfl (by first | rfl | exact ones_funs [_]) (by simp [maxLen]; omega) (by simp; omega) (by simp [go_sem]) (fun hC' => ?_); try simp only [go_sem, Nat.reduceEqDiff, Nat.reduceAdd, Nat.reduceSub, Nat.reduceLT, Nat.reduceMul, Nat.reduceBEq, Nat.reduceLeDiff, ↓reduceIte, Int.reduceToNat, Nat.reduceGT, Int.reduceLE, Int.reduceLT, Int.reduceGE, Int.reduceGT, Int.reduceEq, Int.reduceNe, reduceCtorEq, hbk, hwk])
      | (with_reducible refine And.intro ?_ ?_)
    all_goals
      exact ⟨(k + 1, hC', F ++ [⟨f.name, hn', f.params, f.res, a'⟩]), by simp only; omega, ⟨by simp only; omega, by rw [List.map_append, hFk, List.take_add_one, hf]; simp [FunG.bare, ha']⟩, le_mkSl rfl ⟨fun i x hi => by
        simp only [go_sem, Nat.reduceEqDiff, Nat.reduceAdd, Nat.reduceSub, Nat.reduceLT, Nat.reduceMul, Nat.reduceBEq, Nat.reduceLeDiff, ↓reduceIte, Int.reduceToNat, Nat.reduceGT, Int.reduceLE, Int.reduceLT, Int.reduceGE, Int.reduceGT, Int.reduceEq, Int.reduceNe, reduceCtorEq] at hi ⊢
        simp only [cqHp, pOut, declsAV, funsAV, Hp.setBlk, Hp.setSp] at hi ⊢
        by_cases e3 : i = b3
        · simpa [e3, splice, List.map_append, FunG.av, FunG.cs, paramsAV] using hi
        · by_cases e2 : i = b2
          · subst e2; simpa [e3, pZero] using hi
          · simpa [e3, e2] using hi, fun _ _ h => h, by
        simp only [go_sem, Nat.reduceEqDiff, Nat.reduceAdd, Nat.reduceSub, Nat.reduceLT, Nat.reduceMul, Nat.reduceBEq, Nat.reduceLeDiff, ↓reduceIte, Int.reduceToNat, Nat.reduceGT, Int.reduceLE, Int.reduceLT, Int.reduceGE, Int.reduceGT, Int.reduceEq, Int.reduceNe, reduceCtorEq, cqHp]
        repeat first | exact List.Sublist.refl _ | apply List.Sublist.cons, fun _ h => h⟩ (by simp [go_sem, hwk])⟩
  · have e0 : k = p.fs.length := by have := of_decide_eq_false b1; omega
    subst e0
    rw [List.take_length] at hFk
    simp only [hbk, hbk2, go_sem, Nat.reduceEqDiff, Nat.reduceAdd, Nat.reduceSub, Nat.reduceLT, Nat.reduceMul, Nat.reduceBEq, Nat.reduceLeDiff, ↓reduceIte, Int.reduceToNat, Nat.reduceGT, Int.reduceLE, Int.reduceLT, Int.reduceGE, Int.reduceGT, Int.reduceEq, Int.reduceNe, reduceCtorEq]
    refine ret_le (hp' := hp) ⟨fun i x hi => ?_, fun _ _ h => h, List.sublist_cons_self _ _, fun _ h => h⟩ ⟨⟨⟨hD, D, hF, F⟩, rfl, ⟨hDD, hFk⟩⟩, rfl⟩
    have e2 : i ≠ b2 := by rintro rfl; rw [hn2] at hi; cases hi
    have e3 : i ≠ b3 := by rintro rfl; rw [hn3] at hi; cases hi
    simpa [cqHp, Hp.setBlk, Hp.setSp, Hp.delBlk, e2, e3] using hi
theorem sameProg_calls (a b : ProgG) (h : SameP a b) (hlen : a.fs.length ≤ 40) (hno : ∀ f ∈ a.fs, nodesT f.body ≤ 5000) (hp : Hp) : ACalls Tryz.prog 36 [a.av, b.av] hp (fun r hp' => r = .v (.bool true) ∧ hp' = hp) := by
  have l1 : b.fs.length = a.fs.length := by have := congrArg List.length h.fs; simpa using this
  refine acalls_of Tryz.func36 rfl (by decide +kernel) (awp_sound (mu := []) _ _ _ ?_)
  simp only [go_sem, Nat.reduceEqDiff, Nat.reduceAdd, Nat.reduceSub, Nat.reduceLT, Nat.reduceMul, Nat.reduceBEq, Nat.reduceLeDiff, ↓reduceIte, Int.reduceToNat, Nat.reduceGT, Int.reduceLE, Int.reduceLT, Int.reduceGE, Int.reduceGT, Int.reduceEq, Int.reduceNe, reduceCtorEq, ProgG.av, ProgG.cs, declsAV, funsAV]
  intro q1 q2
  have c := fun hp => same_calls a.hd b.hd a.ds b.ds h.ds.symm hp
  simp only [declsAV] at c
  refine callX_by (c _) ?_
  clear c
  rintro r hp1 ⟨rfl, rfl⟩
  simp only [go_sem, Nat.reduceEqDiff, Nat.reduceAdd, Nat.reduceSub, Nat.reduceLT, Nat.reduceMul, Nat.reduceBEq, Nat.reduceLeDiff, ↓reduceIte, Int.reduceToNat, Nat.reduceGT, Int.reduceLE, Int.reduceLT, Int.reduceGE, Int.reduceGT, Int.reduceEq, Int.reduceNe, reduceCtorEq, l1]
  refine aw_loopX 65 (fun k : Nat => [(2, .ref q1 [.lst 3 a.hd (a.ds.map DeclG.av), .lst 9 a.hf (a.fs.map FunG.av)]), (3, .ref q2 [.lst 3 b.hd (b.ds.map DeclG.av), .lst 9 b.hf (b.fs.map FunG.av)]), (24, .lst 9 a.hf (a.fs.map FunG.av)), (25, .v (.int .i64 a.fs.length)), (26, .v (.int .i64 k))])
    (fun _ => hp1) (fun k => k ≤ a.fs.length) (fun k => a.fs.length - k) 0 (Nat.zero_le _) (le_mkSl rfl (Hp.le_refl _) (by simp [go_sem])) ?_
  intro k hk
  refine awp_sound (mu := []) _ _ _ ?_
  simp only [go_sem, Nat.reduceEqDiff, Nat.reduceAdd, Nat.reduceSub, Nat.reduceLT, Nat.reduceMul, Nat.reduceBEq, Nat.reduceLeDiff, ↓reduceIte, Int.reduceToNat, Nat.reduceGT, Int.reduceLE, Int.reduceLT, Int.reduceGE, Int.reduceGT, Int.reduceEq, Int.reduceNe, reduceCtorEq]
  refine brK_mk (fun b1 => ?_) (fun b1 => ?_) <;> simp only [go_sem, Nat.reduceEqDiff, Nat.reduceAdd, Nat.reduceSub, Nat.reduceLT, Nat.reduceMul, Nat.reduceBEq, Nat.reduceLeDiff, ↓reduceIte, Int.reduceToNat, Nat.reduceGT, Int.reduceLE, Int.reduceLT, Int.reduceGE, Int.reduceGT, Int.reduceEq, Int.reduceNe, reduceCtorEq, b1]
  · have hk' : k < a.fs.length := by simpa using b1
    obtain ⟨x, hx⟩ := someAt a.fs k hk'
    obtain ⟨y, hy, hxy⟩ := map_at2 h.fs hx
    simp only [FunG.bare, Prod.mk.injEq] at hxy
    obtain ⟨e1, e2, e3, e4⟩ := hxy
    have hfn := hno x (List.mem_of_getElem? hx)
    have hwk : IntKind.i64.wrap ((k : Int) + 1) = ((k + 1 : Nat) : Int) := IntWalk.i64_in _ (by omega)
    simp only [go_sem, Nat.reduceEqDiff, Nat.reduceAdd, Nat.reduceSub, Nat.reduceLT, Nat.reduceMul, Nat.reduceBEq, Nat.reduceLeDiff, ↓reduceIte, Int.reduceToNat, Nat.reduceGT, Int.reduceLE, Int.reduceLT, Int.reduceGE, Int.reduceGT, Int.reduceEq, Int.reduceNe, reduceCtorEq, mapAt FunG.av _ _ _ hx, mapAt FunG.av _ _ _ hy, FunG.av, FunG.cs, paramsAV]
    intro v hv
    have hdv := fun T cs => Hp.del_set _ _ T cs hv.1
    simp only [hdv]
    intro v2 hv2
    have hdv2 := fun T cs => Hp.del_set _ _ T cs hv2.1
    simp only [hdv2, ← e1, ← e2, ← e3]
    simp only [go_sem, Nat.reduceEqDiff, Nat.reduceAdd, Nat.reduceSub, Nat.reduceLT, Nat.reduceMul, Nat.reduceBEq, Nat.reduceLeDiff, ↓reduceIte, Int.reduceToNat, Nat.reduceGT, Int.reduceLE, Int.reduceLT, Int.reduceGE, Int.reduceGT, Int.reduceEq, Int.reduceNe, reduceCtorEq, ← e1, ← e2, ← e3, hdv, hdv2]
    have c := fun hp => sameParams_calls x.hp y.hp x.params hp
    simp only [paramsAV] at c
    refine callX_by (c _) ?_
    clear c
    rintro r hp2 ⟨rfl, rfl⟩
    simp only [go_sem, Nat.reduceEqDiff, Nat.reduceAdd, Nat.reduceSub, Nat.reduceLT, Nat.reduceMul, Nat.reduceBEq, Nat.reduceLeDiff, ↓reduceIte, Int.reduceToNat, Nat.reduceGT, Int.reduceLE, Int.reduceLT, Int.reduceGE, Int.reduceGT, Int.reduceEq, Int.reduceNe, reduceCtorEq]
    have c := fun hp => sameT_calls (nodesT x.body) x.body y.body (Nat.le_refl _) hfn e4 hp
    simp only [TermG.av, TermG.cs_eq] at c
    refine callX_by (c _) ?_
    rintro r hp3 ⟨rfl, rfl⟩
    simp only [go_sem, Nat.reduceEqDiff, Nat.reduceAdd, Nat.reduceSub, Nat.reduceLT, Nat.reduceMul, Nat.reduceBEq, Nat.reduceLeDiff, ↓reduceIte, Int.reduceToNat, Nat.reduceGT, Int.reduceLE, Int.reduceLT, Int.reduceGE, Int.reduceGT, Int.reduceEq, Int.reduceNe, reduceCtorEq, hwk]
    exact ⟨k + 1, by omega, by omega, le_mkSl rfl (by simp only [go_sem, Nat.reduceEqDiff, Nat.reduceAdd, Nat.reduceSub, Nat.reduceLT, Nat.reduceMul, Nat.reduceBEq, Nat.reduceLeDiff, ↓reduceIte, Int.reduceToNat, Nat.reduceGT, Int.reduceLE, Int.reduceLT, Int.reduceGE, Int.reduceGT, Int.reduceEq, Int.reduceNe, reduceCtorEq, hdv, hdv2]; exact Hp.le_refl _) (by simp [go_sem, hwk])⟩
  · exact ret_same ⟨rfl, rfl⟩
end Go.Proofs.YtppoacgeiooppaaGreat
