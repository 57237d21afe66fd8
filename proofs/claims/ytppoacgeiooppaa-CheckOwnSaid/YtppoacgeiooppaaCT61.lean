/- The reference of the layer 'term': copies and comparisons of programs. -/
import Derived.Test.YtppoacgeiooppaaCT59
import Derived.Test.YtppoacgeiooppaaCT60
import Derived.Test.YtppoacgeiooppaaCT22
set_option linter.unusedSimpArgs false
set_option linter.unusedVariables false
set_option maxRecDepth 20000
set_option maxHeartbeats 4000000
namespace Go.Proofs.Ytppoacgeiooppaa
open Go.AL

theorem sameStrs_calls (ha hb : Value) (a b : List Bytes) (hp : Hp) : ACalls Try.prog 25 [strsAV ha a, strsAV hb b] hp (fun r hp' => r = .v (.bool (decide (a = b))) ∧ hp' = hp) := by
  refine acalls_fit (callable_of Try.func25 (by decide +kernel)) fun hfit => ?_
  have hl : a.length ≤ maxLen := fit_lst hfit.1
  clear hfit
  refine acalls_of Try.func25 rfl (by decide +kernel) (awp_sound (mu := []) _ _ _ ?_)
  simp only [go_sem, Nat.reduceEqDiff, Nat.reduceAdd, Nat.reduceSub, Nat.reduceLT, Nat.reduceMul, Nat.reduceBEq, Nat.reduceLeDiff, ↓reduceIte, Int.reduceToNat, Nat.reduceGT, Int.reduceLE, Int.reduceLT, Int.reduceGE, Int.reduceGT, Int.reduceEq, Int.reduceNe, reduceCtorEq, strsAV]
  refine brK_mk (fun b0 => ?_) (fun b0 => ?_) <;> simp only [go_sem, Nat.reduceEqDiff, Nat.reduceAdd, Nat.reduceSub, Nat.reduceLT, Nat.reduceMul, Nat.reduceBEq, Nat.reduceLeDiff, ↓reduceIte, Int.reduceToNat, Nat.reduceGT, Int.reduceLE, Int.reduceLT, Int.reduceGE, Int.reduceGT, Int.reduceEq, Int.reduceNe, reduceCtorEq, b0]
  · have hab : a.length = b.length := by have := of_decide_eq_true b0; omega
    refine aw_loopX 26 (fun k : Nat => [(0, .lst 1 ha (a.map fun s => .v (.string (bs s)))), (1, .lst 1 hb (b.map fun s => .v (.string (bs s)))), (12, .v (.int .i64 a.length)), (13, .v (.int .i64 k))])
      (fun _ => hp) (fun k => k ≤ a.length ∧ a.take k = b.take k) (fun k => a.length - k) 0 ⟨Nat.zero_le _, rfl⟩ (le_mkSl rfl (Hp.le_refl _) (by simp [go_sem])) ?_
    rintro k ⟨hk, hd⟩
    refine awp_sound (mu := []) _ _ _ ?_
    simp only [go_sem, Nat.reduceEqDiff, Nat.reduceAdd, Nat.reduceSub, Nat.reduceLT, Nat.reduceMul, Nat.reduceBEq, Nat.reduceLeDiff, ↓reduceIte, Int.reduceToNat, Nat.reduceGT, Int.reduceLE, Int.reduceLT, Int.reduceGE, Int.reduceGT, Int.reduceEq, Int.reduceNe, reduceCtorEq]
    refine brK_mk (fun b1 => ?_) (fun b1 => ?_) <;> simp only [go_sem, Nat.reduceEqDiff, Nat.reduceAdd, Nat.reduceSub, Nat.reduceLT, Nat.reduceMul, Nat.reduceBEq, Nat.reduceLeDiff, ↓reduceIte, Int.reduceToNat, Nat.reduceGT, Int.reduceLE, Int.reduceLT, Int.reduceGE, Int.reduceGT, Int.reduceEq, Int.reduceNe, reduceCtorEq, b1]
    · have hk' : k < a.length := by simpa using b1
      obtain ⟨x, hx⟩ := someAt a k hk'
      obtain ⟨y, hy⟩ := someAt b k (by omega)
      have hwu := upK k _ hk' hl
      refine draw_by (mu := []) (fun _ => True) (.take 0 (.take 1 (.take 2 (.take 3 (.take 4 (.take 5 (.take 6 (.take 7 (.take 8 (.done)))))))))) (by decide +kernel) trivial (by decide +kernel) (by decide +kernel) ?_
      simp only [go_sem, Nat.reduceEqDiff, Nat.reduceAdd, Nat.reduceSub, Nat.reduceLT, Nat.reduceMul, Nat.reduceBEq, Nat.reduceLeDiff, ↓reduceIte, Int.reduceToNat, Nat.reduceGT, Int.reduceLE, Int.reduceLT, Int.reduceGE, Int.reduceGT, Int.reduceEq, Int.reduceNe, reduceCtorEq, strAt _ _ _ hx, strAt _ _ _ hy]
      refine brK_mk (fun b2 => ?_) (fun b2 => ?_) <;> simp only [go_sem, Nat.reduceEqDiff, Nat.reduceAdd, Nat.reduceSub, Nat.reduceLT, Nat.reduceMul, Nat.reduceBEq, Nat.reduceLeDiff, ↓reduceIte, Int.reduceToNat, Nat.reduceGT, Int.reduceLE, Int.reduceLT, Int.reduceGE, Int.reduceGT, Int.reduceEq, Int.reduceNe, reduceCtorEq, b2, hwu]
      · have e := of_decide_eq_true b2
        subst e
        exact ⟨k + 1, by omega, ⟨by omega, by rw [List.take_add_one, List.take_add_one, hx, hy, hd]⟩, le_mkSl rfl (Hp.le_refl _) (by simp [go_sem, hwu])⟩
      · have e := of_decide_eq_false b2
        exact ret_same ⟨by rw [decide_eq_false]; rintro rfl; rw [hx] at hy; exact e (Option.some.inj hy), rfl⟩
    · have e : k = a.length := by simp at b1; omega
      subst e
      rw [List.take_length, hab, List.take_length] at hd
      exact ret_same ⟨by rw [decide_eq_true hd], rfl⟩
  · exact ret_same ⟨by rw [decide_eq_false]; rintro rfl; exact of_decide_eq_false b0 rfl, rfl⟩
theorem sameParams_calls (ha hb : Value) (a : List ParamG) (hp : Hp) : ACalls Try.prog 22 [paramsAV ha a, paramsAV hb a] hp (fun r hp' => r = .v (.bool true) ∧ hp' = hp) := by
  refine acalls_fit (callable_of Try.func22 (by decide +kernel)) fun hfit => ?_
  have hl : a.length ≤ maxLen := fit_lst hfit.1
  clear hfit
  refine acalls_of Try.func22 rfl (by decide +kernel) (awp_sound (mu := []) _ _ _ ?_)
  simp only [go_sem, Nat.reduceEqDiff, Nat.reduceAdd, Nat.reduceSub, Nat.reduceLT, Nat.reduceMul, Nat.reduceBEq, Nat.reduceLeDiff, ↓reduceIte, Int.reduceToNat, Nat.reduceGT, Int.reduceLE, Int.reduceLT, Int.reduceGE, Int.reduceGT, Int.reduceEq, Int.reduceNe, reduceCtorEq, paramsAV]
  refine aw_loopX 26 (fun k : Nat => [(0, .lst 2 ha (a.map ParamG.av)), (1, .lst 2 hb (a.map ParamG.av)), (12, .v (.int .i64 a.length)), (13, .v (.int .i64 k))])
    (fun _ => hp) (fun k => k ≤ a.length) (fun k => a.length - k) 0 (Nat.zero_le _) (le_mkSl rfl (Hp.le_refl _) (by simp [go_sem])) ?_
  intro k hk
  refine awp_sound (mu := []) _ _ _ ?_
  simp only [go_sem, Nat.reduceEqDiff, Nat.reduceAdd, Nat.reduceSub, Nat.reduceLT, Nat.reduceMul, Nat.reduceBEq, Nat.reduceLeDiff, ↓reduceIte, Int.reduceToNat, Nat.reduceGT, Int.reduceLE, Int.reduceLT, Int.reduceGE, Int.reduceGT, Int.reduceEq, Int.reduceNe, reduceCtorEq]
  refine brK_mk (fun b1 => ?_) (fun b1 => ?_) <;> simp only [go_sem, Nat.reduceEqDiff, Nat.reduceAdd, Nat.reduceSub, Nat.reduceLT, Nat.reduceMul, Nat.reduceBEq, Nat.reduceLeDiff, ↓reduceIte, Int.reduceToNat, Nat.reduceGT, Int.reduceLE, Int.reduceLT, Int.reduceGE, Int.reduceGT, Int.reduceEq, Int.reduceNe, reduceCtorEq, b1]
  · have hk' : k < a.length := by simpa using b1
    obtain ⟨x, hx⟩ := someAt a k hk'
    have hwu := upK k _ hk' hl
    refine draw_by (mu := []) (fun _ => True) (.take 0 (.take 1 (.take 2 (.take 3 (.take 4 (.take 5 (.take 6 (.take 7 (.take 8 (.done)))))))))) (by decide +kernel) trivial (by decide +kernel) (by decide +kernel) ?_
    simp only [go_sem, Nat.reduceEqDiff, Nat.reduceAdd, Nat.reduceSub, Nat.reduceLT, Nat.reduceMul, Nat.reduceBEq, Nat.reduceLeDiff, ↓reduceIte, Int.reduceToNat, Nat.reduceGT, Int.reduceLE, Int.reduceLT, Int.reduceGE, Int.reduceGT, Int.reduceEq, Int.reduceNe, reduceCtorEq, mapAt ParamG.av _ _ _ hx, ParamG.av, ParamG.cs, hwu]
    exact ⟨k + 1, by omega, by omega, le_mkSl rfl (Hp.le_refl _) (by simp [go_sem, hwu])⟩
  · exact ret_same ⟨rfl, rfl⟩
theorem bare_fields {a b : TermG} (h : bareT a = bareT b) : b.op = a.op ∧ b.n = a.n ∧ b.name = a.name ∧ b.ty = a.ty ∧ b.args.map bareT = a.args.map bareT ∧ b.cls.map bareB = a.cls.map bareB := by
  rw [bareT_eq, bareT_eq b] at h
  injection h with h1 h2 h3 h4 h5 h6 h7 h8
  exact ⟨h1.symm, h2.symm, h3.symm, h4.symm, h6.symm, h8.symm⟩
theorem bare_clause {a b : ClauseG} (h : bareB a = bareB b) : b.names = a.names ∧ bareT a.body = bareT b.body := by
  rw [bareB_eq, bareB_eq b] at h
  injection h with h1 h2 h3
  exact ⟨h2.symm, h3⟩
theorem map_at2 {α β : Type} {f : α → β} {l r : List α} (h : r.map f = l.map f) {k : Nat} {x : α} (hx : l[k]? = some x) : ∃ y, r[k]? = some y ∧ f x = f y := by
  have := congrArg (fun l => l[k]?) h
  simp only [List.getElem?_map, hx, Option.map_some] at this
  cases e : r[k]? with
  | none => rw [e] at this; cases this
  | some y => rw [e] at this; exact ⟨y, rfl, (Option.some.inj this).symm⟩
theorem sameT_calls : ∀ (N : Nat) (a b : TermG), nodesT a ≤ N → N ≤ 5000 → bareT a = bareT b → ∀ (hp : Hp), ACalls Try.prog 21 [a.av, b.av] hp (fun r hp' => r = .v (.bool true) ∧ hp' = hp)
  | 0, a, b, hN, _, _, _ => by have := nodesT_pos a; omega
  | N + 1, a, b, hN, hN2, hab, hp => by
    have hrec := sameT_calls N
    obtain ⟨e1, e2, e3, e4, e5, e6⟩ := bare_fields hab
    have l5 : b.args.length = a.args.length := by have := congrArg List.length e5; simpa using this
    have l6 : b.cls.length = a.cls.length := by have := congrArg List.length e6; simpa using this
    have hnt := nodesT_eq a
    have hlA := argsN_len a.args
    have hlC := clsN_len a.cls
    refine acalls_of Try.func21 rfl (by decide +kernel) (awp_sound (mu := []) _ _ _ ?_)
    simp only [go_sem, Nat.reduceEqDiff, Nat.reduceAdd, Nat.reduceSub, Nat.reduceLT, Nat.reduceMul, Nat.reduceBEq, Nat.reduceLeDiff, ↓reduceIte, Int.reduceToNat, Nat.reduceGT, Int.reduceLE, Int.reduceLT, Int.reduceGE, Int.reduceGT, Int.reduceEq, Int.reduceNe, reduceCtorEq, TermG.av, TermG.cs_eq, e1, e2, e3, e4, l5, l6]
    intro q2 q3
    refine aw_loopX 107 (fun k : Nat => [(2, .ref q2 [.v (.int .i64 a.op), .v (.int .i64 a.n), .v (.string (bs a.name)), .v (.int .i64 a.ty), .lst 6 a.ha (a.args.map TermG.av), .lst 7 a.hc (a.cls.map ClauseG.av)]), (3, .ref q3 [.v (.int .i64 a.op), .v (.int .i64 a.n), .v (.string (bs a.name)), .v (.int .i64 a.ty), .lst 6 b.ha (b.args.map TermG.av), .lst 7 b.hc (b.cls.map ClauseG.av)]), (53, .v (.int .i64 a.args.length)), (54, .v (.int .i64 k))])
      (fun _ => hp) (fun k => k ≤ a.args.length) (fun k => a.args.length - k) 0 (Nat.zero_le _) (le_mkSl rfl (Hp.le_refl _) (by simp [go_sem])) ?_
    intro k hk
    refine awp_sound (mu := []) _ _ _ ?_
    simp only [go_sem, Nat.reduceEqDiff, Nat.reduceAdd, Nat.reduceSub, Nat.reduceLT, Nat.reduceMul, Nat.reduceBEq, Nat.reduceLeDiff, ↓reduceIte, Int.reduceToNat, Nat.reduceGT, Int.reduceLE, Int.reduceLT, Int.reduceGE, Int.reduceGT, Int.reduceEq, Int.reduceNe, reduceCtorEq]
    refine brK_mk (fun b1 => ?_) (fun b1 => ?_) <;> simp only [go_sem, Nat.reduceEqDiff, Nat.reduceAdd, Nat.reduceSub, Nat.reduceLT, Nat.reduceMul, Nat.reduceBEq, Nat.reduceLeDiff, ↓reduceIte, Int.reduceToNat, Nat.reduceGT, Int.reduceLE, Int.reduceLT, Int.reduceGE, Int.reduceGT, Int.reduceEq, Int.reduceNe, reduceCtorEq, b1]
    · have hk' : k < a.args.length := by simpa using b1
      obtain ⟨x, hx⟩ := someAt a.args k hk'
      obtain ⟨y, hy, hxy⟩ := map_at2 e5 hx
      have hlt := args_lt (List.mem_of_getElem? hx)
      have hwu : IntKind.i64.wrap ((k : Int) + 1) = ((k + 1 : Nat) : Int) := IntWalk.i64_in _ (by omega)
      refine draw_by (mu := []) (fun _ => True) (.take 0 (.take 1 (.take 2 (.take 3 (.take 4 (.take 5 (.take 6 (.take 7 (.take 8 (.take 9 (.br 10 (.take 11 (.done)) (.stop)))))))))))) (by decide +kernel) trivial (by decide +kernel) (by decide +kernel) ?_
      simp only [go_sem, Nat.reduceEqDiff, Nat.reduceAdd, Nat.reduceSub, Nat.reduceLT, Nat.reduceMul, Nat.reduceBEq, Nat.reduceLeDiff, ↓reduceIte, Int.reduceToNat, Nat.reduceGT, Int.reduceLE, Int.reduceLT, Int.reduceGE, Int.reduceGT, Int.reduceEq, Int.reduceNe, reduceCtorEq, mapAt TermG.av _ _ _ hx, mapAt TermG.av _ _ _ hy, TermG.av, TermG.cs_eq]
      have c := fun hp => hrec x y (by omega) (by omega) hxy hp
      simp only [TermG.av, TermG.cs_eq] at c
      refine callX_by (c _) ?_
      rintro r hp1 ⟨rfl, rfl⟩
      simp only [go_sem, Nat.reduceEqDiff, Nat.reduceAdd, Nat.reduceSub, Nat.reduceLT, Nat.reduceMul, Nat.reduceBEq, Nat.reduceLeDiff, ↓reduceIte, Int.reduceToNat, Nat.reduceGT, Int.reduceLE, Int.reduceLT, Int.reduceGE, Int.reduceGT, Int.reduceEq, Int.reduceNe, reduceCtorEq, hwu]
      exact ⟨k + 1, by omega, by omega, le_mkSl rfl (Hp.le_refl _) (by simp [go_sem, hwu])⟩
    · refine aw_loopX 107 (fun k : Nat => [(2, .ref q2 [.v (.int .i64 a.op), .v (.int .i64 a.n), .v (.string (bs a.name)), .v (.int .i64 a.ty), .lst 6 a.ha (a.args.map TermG.av), .lst 7 a.hc (a.cls.map ClauseG.av)]), (3, .ref q3 [.v (.int .i64 a.op), .v (.int .i64 a.n), .v (.string (bs a.name)), .v (.int .i64 a.ty), .lst 6 b.ha (b.args.map TermG.av), .lst 7 b.hc (b.cls.map ClauseG.av)]), (72, .v (.int .i64 a.cls.length)), (73, .v (.int .i64 k))])
        (fun _ => hp) (fun k => k ≤ a.cls.length) (fun k => a.cls.length - k) 0 (Nat.zero_le _) (le_mkSl rfl (Hp.le_refl _) (by simp [go_sem])) ?_
      intro k hk
      refine awp_sound (mu := []) _ _ _ ?_
      simp only [go_sem, Nat.reduceEqDiff, Nat.reduceAdd, Nat.reduceSub, Nat.reduceLT, Nat.reduceMul, Nat.reduceBEq, Nat.reduceLeDiff, ↓reduceIte, Int.reduceToNat, Nat.reduceGT, Int.reduceLE, Int.reduceLT, Int.reduceGE, Int.reduceGT, Int.reduceEq, Int.reduceNe, reduceCtorEq]
      refine brK_mk (fun b1 => ?_) (fun b1 => ?_) <;> simp only [go_sem, Nat.reduceEqDiff, Nat.reduceAdd, Nat.reduceSub, Nat.reduceLT, Nat.reduceMul, Nat.reduceBEq, Nat.reduceLeDiff, ↓reduceIte, Int.reduceToNat, Nat.reduceGT, Int.reduceLE, Int.reduceLT, Int.reduceGE, Int.reduceGT, Int.reduceEq, Int.reduceNe, reduceCtorEq, b1]
      · have hk' : k < a.cls.length := by simpa using b1
        obtain ⟨x, hx⟩ := someAt a.cls k hk'
        obtain ⟨y, hy, hxy⟩ := map_at2 e6 hx
        obtain ⟨en, eb⟩ := bare_clause hxy
        have hlt := cls_lt (List.mem_of_getElem? hx)
        have hwu : IntKind.i64.wrap ((k : Int) + 1) = ((k + 1 : Nat) : Int) := IntWalk.i64_in _ (by omega)
        refine draw_by (mu := []) (fun _ => True) (.take 0 (.take 1 (.take 2 (.take 3 (.take 4 (.take 5 (.take 6 (.take 7 (.take 8 (.take 9 (.take 10 (.take 11 (.br 12 (.take 13 (.take 14 (.take 15 (.take 16 (.take 17 (.take 18 (.take 19 (.take 20 (.take 21 (.take 22 (.take 23 (.take 24 (.take 25 (.take 26 (.br 27 (.take 28 (.take 29 (.done))) (.stop)))))))))))))))) (.stop)))))))))))))) (by decide +kernel) trivial (by decide +kernel) (by decide +kernel) ?_
        simp only [go_sem, Nat.reduceEqDiff, Nat.reduceAdd, Nat.reduceSub, Nat.reduceLT, Nat.reduceMul, Nat.reduceBEq, Nat.reduceLeDiff, ↓reduceIte, Int.reduceToNat, Nat.reduceGT, Int.reduceLE, Int.reduceLT, Int.reduceGE, Int.reduceGT, Int.reduceEq, Int.reduceNe, reduceCtorEq, mapAt ClauseG.av _ _ _ hx, mapAt ClauseG.av _ _ _ hy, ClauseG.av, ClauseG.cs_eq, en]
        have c := fun hp => sameStrs_calls x.hn y.hn x.names x.names hp
        simp only [strsAV] at c
        refine callX_by (c _) ?_
        clear c
        rintro r hp1 ⟨rfl, rfl⟩
        simp only [go_sem, Nat.reduceEqDiff, Nat.reduceAdd, Nat.reduceSub, Nat.reduceLT, Nat.reduceMul, Nat.reduceBEq, Nat.reduceLeDiff, ↓reduceIte, Int.reduceToNat, Nat.reduceGT, Int.reduceLE, Int.reduceLT, Int.reduceGE, Int.reduceGT, Int.reduceEq, Int.reduceNe, reduceCtorEq, mapAt ClauseG.av _ _ _ hx, mapAt ClauseG.av _ _ _ hy, ClauseG.av, ClauseG.cs_eq, en]
        have c := fun hp => hrec x.body y.body (by omega) (by omega) eb hp
        simp only [TermG.av, TermG.cs_eq] at c
        refine callX_by (c _) ?_
        rintro r hp1 ⟨rfl, rfl⟩
        simp only [go_sem, Nat.reduceEqDiff, Nat.reduceAdd, Nat.reduceSub, Nat.reduceLT, Nat.reduceMul, Nat.reduceBEq, Nat.reduceLeDiff, ↓reduceIte, Int.reduceToNat, Nat.reduceGT, Int.reduceLE, Int.reduceLT, Int.reduceGE, Int.reduceGT, Int.reduceEq, Int.reduceNe, reduceCtorEq, hwu]
        exact ⟨k + 1, by omega, by omega, le_mkSl rfl (Hp.le_refl _) (by simp [go_sem, hwu])⟩
      · exact ret_same ⟨rfl, rfl⟩
def FunG.bare (f : FunG) : Bytes × List ParamG × Int × TermG := (f.name, f.params, f.res, bareT f.body)
structure SameP (p q : ProgG) : Prop where
  ds : q.ds.map DeclG.bare = p.ds.map DeclG.bare
  fs : q.fs.map FunG.bare = p.fs.map FunG.bare
end Go.Proofs.Ytppoacgeiooppaa
