/- The law of the layer 'check': CheckOwn, walked. -/
import Derived.Test.YtppoacgeiooppaaCT63
import Derived.Test.YtppoacgeiooppaaCT27
import Derived.Test.YtppoacgeiooppaaCAL38
set_option linter.unusedSimpArgs false
set_option linter.unusedVariables false
set_option maxRecDepth 20000
set_option maxHeartbeats 4000000
namespace Go.Proofs.Ytppoacgeiooppaa
open Go.AL

theorem fresh_le {hp : Hp} {b : Nat} {T : TypeId} {cs : List AV} (hb : Fresh hp b) : hp.le (hp.setBlk b T cs) := by
  refine ⟨fun j u hj => ?_, fun _ _ h => h, List.Sublist.refl _, fun _ h => h⟩
  have h1 : j ≠ b := by rintro rfl; rw [hb.1] at hj; cases hj
  simp [Hp.setBlk, h1, hj]
mutual
theorem nodes_bareT : ∀ t : TermG, nodesT (bareT t) = nodesT t
  | .mk _ _ _ _ _ args _ cls => by rw [bareT, nodesT, nodesT, nodes_bareA args, nodes_bareC cls]
theorem nodes_bareA : ∀ l : List TermG, nodesA (bareA l) = nodesA l
  | [] => rfl
  | a :: r => by rw [bareA, nodesA, nodesA, nodes_bareT a, nodes_bareA r]
theorem nodes_bareC : ∀ l : List ClauseG, nodesC (bareC l) = nodesC l
  | [] => rfl
  | .mk _ _ b :: r => by rw [bareC, nodesC, nodesC, bareB, nodesB, nodesB, nodes_bareT b, nodes_bareC r]
end
theorem bare_nodes {a b : TermG} (h : bareT a = bareT b) : nodesT a = nodesT b := by rw [← nodes_bareT a, h, nodes_bareT b]
theorem copy_nodes {p q : ProgG} (h : SameP p q) {m : Nat} (hp : ∀ f ∈ p.fs, nodesT f.body ≤ m) : ∀ f ∈ q.fs, nodesT f.body ≤ m := by
  intro f hf
  obtain ⟨k, hk⟩ := List.getElem?_of_mem hf
  obtain ⟨y, hy, hxy⟩ := map_at2 h.fs.symm hk
  simp only [FunG.bare, Prod.mk.injEq] at hxy
  rw [bare_nodes hxy.2.2.2]
  exact hp y (List.mem_of_getElem? hy)
theorem checkOwn_calls (p : ProgG) (hpf : PFit p) (hsm : p.small) (h1 h2 : Value) (V L : List ParamG) (t : TermG) (hst : smT t) (hp : Hp) (hg : GOk hp) :
    ACalls Try.prog 4 [p.av, paramsAV h1 V, paramsAV h2 L, t.av] hp (fun r hp' => r = .v (.bool true) ∧ hp' = hp) := by
  refine acalls_of Try.func4 rfl (by decide +kernel) (aw_seq (awp_sound (mu := [72]) _ _ _ ?_))
  simp only [go_sem, Nat.reduceEqDiff, Nat.reduceAdd, Nat.reduceSub, Nat.reduceLT, Nat.reduceMul, Nat.reduceBEq, Nat.reduceLeDiff, ↓reduceIte, Int.reduceToNat, Nat.reduceGT, Int.reduceLE, Int.reduceLT, Int.reduceGE, Int.reduceGT, Int.reduceEq, Int.reduceNe, reduceCtorEq, ProgG.av, ProgG.cs, declsAV, funsAV, TermG.av, TermG.cs_eq, paramsAV]
  intro q1 q2
  refine aw_seq (awp_sound (mu := [72]) _ _ _ ?_)
  simp only [go_sem, Nat.reduceEqDiff, Nat.reduceAdd, Nat.reduceSub, Nat.reduceLT, Nat.reduceMul, Nat.reduceBEq, Nat.reduceLeDiff, ↓reduceIte, Int.reduceToNat, Nat.reduceGT, Int.reduceLE, Int.reduceLT, Int.reduceGE, Int.reduceGT, Int.reduceEq, Int.reduceNe, reduceCtorEq]
  have aw : ∀ hp, GOk hp → ACalls Try.prog 9 [] hp (fun r hp' => r = .v (.bool true) ∧ hp' = hp) := fun hp hg => awake4_calls hp hg
  have c := fun hp => few_calls p 700 (by omega) hp
  simp only [ProgG.av, ProgG.cs, declsAV, funsAV] at c
  refine callX_by (c _) ?_
  clear c
  rintro r hp1 ⟨rfl, rfl⟩
  simp only [go_sem, Nat.reduceEqDiff, Nat.reduceAdd, Nat.reduceSub, Nat.reduceLT, Nat.reduceMul, Nat.reduceBEq, Nat.reduceLeDiff, ↓reduceIte, Int.reduceToNat, Nat.reduceGT, Int.reduceLE, Int.reduceLT, Int.reduceGE, Int.reduceGT, Int.reduceEq, Int.reduceNe, reduceCtorEq]
  refine brK_mk (fun b1 => ?_) (fun b1 => ?_) <;> simp only [go_sem, Nat.reduceEqDiff, Nat.reduceAdd, Nat.reduceSub, Nat.reduceLT, Nat.reduceMul, Nat.reduceBEq, Nat.reduceLeDiff, ↓reduceIte, Int.reduceToNat, Nat.reduceGT, Int.reduceLE, Int.reduceLT, Int.reduceGE, Int.reduceGT, Int.reduceEq, Int.reduceNe, reduceCtorEq, b1]
  · have c := fun hp => fits_t_calls t 700 (by omega) hp
    simp only [TermG.av, TermG.cs_eq] at c
    refine callX_by (c _) ?_
    clear c
    rintro r hp2 ⟨rfl, rfl⟩
    simp only [go_sem, Nat.reduceEqDiff, Nat.reduceAdd, Nat.reduceSub, Nat.reduceLT, Nat.reduceMul, Nat.reduceBEq, Nat.reduceLeDiff, ↓reduceIte, Int.reduceToNat, Nat.reduceGT, Int.reduceLE, Int.reduceLT, Int.reduceGE, Int.reduceGT, Int.reduceEq, Int.reduceNe, reduceCtorEq]
    refine brK_mk (fun b2 => ?_) (fun b2 => ?_) <;> simp only [go_sem, Nat.reduceEqDiff, Nat.reduceAdd, Nat.reduceSub, Nat.reduceLT, Nat.reduceMul, Nat.reduceBEq, Nat.reduceLeDiff, ↓reduceIte, Int.reduceToNat, Nat.reduceGT, Int.reduceLE, Int.reduceLT, Int.reduceGE, Int.reduceGT, Int.reduceEq, Int.reduceNe, reduceCtorEq, b2]
    · have ht700 : nodesT t ≤ 700 := of_decide_eq_true b2
      have hfw : p.fs.length ≤ 40 ∧ ∀ f ∈ p.fs, nodesT f.body ≤ 5000 := by
        rw [fewB, Bool.and_eq_true, Bool.and_eq_true] at b1
        obtain ⟨_, c2, c3⟩ := b1
        refine ⟨?_, fun f hf => ?_⟩
        · simp at c2; omega
        · have := of_decide_eq_true (List.all_eq_true.1 c3 f hf); omega
      refine brK_mk (fun b3 => ?_) (fun b3 => ?_) <;> simp only [go_sem, Nat.reduceEqDiff, Nat.reduceAdd, Nat.reduceSub, Nat.reduceLT, Nat.reduceMul, Nat.reduceBEq, Nat.reduceLeDiff, ↓reduceIte, Int.reduceToNat, Nat.reduceGT, Int.reduceLE, Int.reduceLT, Int.reduceGE, Int.reduceGT, Int.reduceEq, Int.reduceNe, reduceCtorEq, b3]
      · refine callX_by (aw _ hg) ?_
        rintro r hp9 ⟨rfl, rfl⟩
        simp only [go_sem, Nat.reduceEqDiff, Nat.reduceAdd, Nat.reduceSub, Nat.reduceLT, Nat.reduceMul, Nat.reduceBEq, Nat.reduceLeDiff, ↓reduceIte, Int.reduceToNat, Nat.reduceGT, Int.reduceLE, Int.reduceLT, Int.reduceGE, Int.reduceGT, Int.reduceEq, Int.reduceNe, reduceCtorEq]
        exact ret_same ⟨rfl, rfl⟩
      refine brK_mk (fun b4 => ?_) (fun b4 => ?_) <;> simp only [go_sem, Nat.reduceEqDiff, Nat.reduceAdd, Nat.reduceSub, Nat.reduceLT, Nat.reduceMul, Nat.reduceBEq, Nat.reduceLeDiff, ↓reduceIte, Int.reduceToNat, Nat.reduceGT, Int.reduceLE, Int.reduceLT, Int.reduceGE, Int.reduceGT, Int.reduceEq, Int.reduceNe, reduceCtorEq, b4]
      · refine callX_by (aw _ hg) ?_
        rintro r hp9 ⟨rfl, rfl⟩
        simp only [go_sem, Nat.reduceEqDiff, Nat.reduceAdd, Nat.reduceSub, Nat.reduceLT, Nat.reduceMul, Nat.reduceBEq, Nat.reduceLeDiff, ↓reduceIte, Int.reduceToNat, Nat.reduceGT, Int.reduceLE, Int.reduceLT, Int.reduceGE, Int.reduceGT, Int.reduceEq, Int.reduceNe, reduceCtorEq]
        exact ret_same ⟨rfl, rfl⟩
      have hV : V.length ≤ 99 := by have := of_decide_eq_false b3; omega
      have hL : L.length ≤ 99 := by have := of_decide_eq_false b4; omega
      refine aw_cut 111 (fun x : Value × Value × ProgG × TermG => [(1, .lst 2 h1 (V.map ParamG.av)), (2, .lst 2 h2 (L.map ParamG.av)), (4, .ref q1 [.lst 3 p.hd (p.ds.map DeclG.av), .lst 9 p.hf (p.fs.map FunG.av)]), (7, .ref q2 [.v (.int .i64 t.op), .v (.int .i64 t.n), .v (.string (bs t.name)), .v (.int .i64 t.ty), .lst 6 t.ha (t.args.map TermG.av), .lst 7 t.hc (t.cls.map ClauseG.av)]),
          (9, .ref x.1 [.lst 3 x.2.2.1.hd (x.2.2.1.ds.map DeclG.av), .lst 9 x.2.2.1.hf (x.2.2.1.fs.map FunG.av)]), (10, .ref x.2.1 [.v (.int .i64 x.2.2.2.op), .v (.int .i64 x.2.2.2.n), .v (.string (bs x.2.2.2.name)), .v (.int .i64 x.2.2.2.ty), .lst 6 x.2.2.2.ha (x.2.2.2.args.map TermG.av), .lst 7 x.2.2.2.hc (x.2.2.2.cls.map ClauseG.av)])])
        (fun _ => hp2) (fun x => SameP p x.2.2.1 ∧ bareT x.2.2.2 = bareT t) (awp_sound (mu := [72]) _ _ _ ?_) ?_
      · simp only [go_sem, Nat.reduceEqDiff, Nat.reduceAdd, Nat.reduceSub, Nat.reduceLT, Nat.reduceMul, Nat.reduceBEq, Nat.reduceLeDiff, ↓reduceIte, Int.reduceToNat, Nat.reduceGT, Int.reduceLE, Int.reduceLT, Int.reduceGE, Int.reduceGT, Int.reduceEq, Int.reduceNe, reduceCtorEq]
        refine draw_by (mu := [72]) (fun _ => True) (.take 0 (.take 2 (.br 1 (.br 3 (.br 4 (.br 5 (.br 6 (.br 7 (.done) (.stop)) (.stop)) (.stop)) (.br 5 (.br 4 (.br 6 (.br 7 (.done) (.stop)) (.stop)) (.stop)) (.stop))) (.br 4 (.br 3 (.br 5 (.br 6 (.br 7 (.done) (.stop)) (.stop)) (.stop)) (.br 5 (.br 3 (.br 6 (.br 7 (.done) (.stop)) (.stop)) (.stop)) (.stop))) (.br 5 (.br 3 (.br 4 (.br 6 (.br 7 (.done) (.stop)) (.stop)) (.stop)) (.br 4 (.br 3 (.br 6 (.br 7 (.done) (.stop)) (.stop)) (.stop)) (.stop))) (.stop)))) (.br 4 (.br 1 (.br 3 (.br 5 (.br 6 (.br 7 (.done) (.stop)) (.stop)) (.stop)) (.br 5 (.br 3 (.br 6 (.br 7 (.done) (.stop)) (.stop)) (.stop)) (.stop))) (.br 5 (.br 1 (.br 3 (.br 6 (.br 7 (.done) (.stop)) (.stop)) (.stop)) (.stop)) (.stop))) (.br 5 (.br 1 (.br 3 (.br 4 (.br 6 (.br 7 (.done) (.stop)) (.stop)) (.stop)) (.br 4 (.br 3 (.br 6 (.br 7 (.done) (.stop)) (.stop)) (.stop)) (.stop))) (.br 4 (.br 1 (.br 3 (.br 6 (.br 7 (.done) (.stop)) (.stop)) (.stop)) (.stop)) (.stop))) (.stop)))))) (by decide +kernel) trivial (by decide +kernel) (by decide +kernel) ?_
        simp only [go_sem, Nat.reduceEqDiff, Nat.reduceAdd, Nat.reduceSub, Nat.reduceLT, Nat.reduceMul, Nat.reduceBEq, Nat.reduceLeDiff, ↓reduceIte, Int.reduceToNat, Nat.reduceGT, Int.reduceLE, Int.reduceLT, Int.reduceGE, Int.reduceGT, Int.reduceEq, Int.reduceNe, reduceCtorEq]
        have cp := fun hp => copyProg_calls p hsm hfw.1 hfw.2 hp
        have ct := fun hp => copyT_calls (nodesT t) t (Nat.le_refl _) (by omega) hst hp
        simp only [ProgG.av, ProgG.cs, declsAV, funsAV, TermG.av, TermG.cs_eq] at cp ct
        repeat' first
          | with_reducible exact trivial
          | (refine callX_by (cp _) ?_; rintro r hp7 ⟨⟨q, rfl, hq⟩, e7⟩; subst hp7; try simp only [go_sem, Nat.reduceEqDiff, Nat.reduceAdd, Nat.reduceSub, Nat.reduceLT, Nat.reduceMul, Nat.reduceBEq, Nat.reduceLeDiff, ↓reduceIte, Int.reduceToNat, Nat.reduceGT, Int.reduceLE, Int.reduceLT, Int.reduceGE, Int.reduceGT, Int.reduceEq, Int.reduceNe, reduceCtorEq])
          | (refine callX_by (ct _) ?_; rintro r hp7 ⟨⟨t', rfl, ht'⟩, e7⟩; subst hp7; try simp only [go_sem, Nat.reduceEqDiff, Nat.reduceAdd, Nat.reduceSub, Nat.reduceLT, Nat.reduceMul, Nat.reduceBEq, Nat.reduceLeDiff, ↓reduceIte, Int.reduceToNat, Nat.reduceGT, Int.reduceLE, Int.reduceLT, Int.reduceGE, Int.reduceGT, Int.reduceEq, Int.reduceNe, reduceCtorEq])
          | (simp only [go_sem, Nat.reduceEqDiff, Nat.reduceAdd, Nat.reduceSub, Nat.reduceLT, Nat.reduceMul, Nat.reduceBEq, Nat.reduceLeDiff, ↓reduceIte, Int.reduceToNat, Nat.reduceGT, Int.reduceLE, Int.reduceLT, Int.reduceGE, Int.reduceGT, Int.reduceEq, Int.reduceNe, reduceCtorEq, if_neg hne, if_neg hne'])
          | (intro c hc
             have hne : c ≠ b := by rintro rfl; have := hc.1; simp [Hp.setBlk] at this
             have hne' := Ne.symm hne
             have hdc := fun T cs => Hp.del_set _ _ T cs hc.1
             try simp only [hdc]
             try simp only [go_sem, Nat.reduceEqDiff, Nat.reduceAdd, Nat.reduceSub, Nat.reduceLT, Nat.reduceMul, Nat.reduceBEq, Nat.reduceLeDiff, ↓reduceIte, Int.reduceToNat, Nat.reduceGT, Int.reduceLE, Int.reduceLT, Int.reduceGE, Int.reduceGT, Int.reduceEq, Int.reduceNe, reduceCtorEq, hdb, hdc, if_neg hne, if_neg hne'])
          | (intro b hb; have hdb := fun T cs => Hp.del_set _ _ T cs hb.1; try simp only [hdb]; try simp only [go_sem, Nat.reduceEqDiff, Nat.reduceAdd, Nat.reduceSub, Nat.reduceLT, Nat.reduceMul, Nat.reduceBEq, Nat.reduceLeDiff, ↓reduceIte, Int.reduceToNat, Nat.reduceGT, Int.reduceLE, Int.reduceLT, Int.reduceGE, Int.reduceGT, Int.reduceEq, Int.reduceNe, reduceCtorEq, hdb])
          | (with_reducible refine And.intro ?_ ?_)
        all_goals
          have hle : ∀ (x : Hp), (∀ j, j ≠ b → j ≠ c → x.blk j = hp2.blk j) → x.mp = hp2.mp → x.sp = hp2.sp → x.gl = hp2.gl → hp2.le x := fun x e1 e2 e3 e4 => ⟨fun j u hj => by
            have h1 : j ≠ b := by rintro rfl; first | (rw [hb.1] at hj; cases hj) | (have := hb.1; simp [Hp.setBlk, hne, hne'] at this; rw [this] at hj; cases hj)
            have h2 : j ≠ c := by rintro rfl; have := hc.1; simp [Hp.setBlk, hne, hne'] at this; rw [this] at hj; cases hj
            rw [e1 j h1 h2]; exact hj, fun j u hj => by rw [e2]; exact hj, by rw [e3]; exact List.Sublist.refl _, fun g hg => by rw [e4]; exact hg⟩
          first
            | (refine ⟨(.pointer (some ⟨b, 0, none⟩), .pointer (some ⟨c, 0, none⟩), q, t'), ⟨hq, ht'⟩, le_mkSl rfl (hle _ (fun j h1 h2 => ?_) rfl rfl rfl) ?_⟩
               · simp [St.setHp, go_sem, Hp.setBlk, Hp.delBlk, h1, h2]
               · simp [go_sem]; done)
            | (refine ⟨(.pointer (some ⟨c, 0, none⟩), .pointer (some ⟨b, 0, none⟩), q, t'), ⟨hq, ht'⟩, le_mkSl rfl (hle _ (fun j h1 h2 => ?_) rfl rfl rfl) ?_⟩
               · simp [St.setHp, go_sem, Hp.setBlk, Hp.delBlk, h1, h2]
               · simp [go_sem]; done)
      · rintro ⟨v9, v10, q, t'⟩ ⟨hq, ht'⟩
        simp only at hq ht'
        refine awp_sound (mu := [72]) _ _ _ ?_
        simp only [go_sem, Nat.reduceEqDiff, Nat.reduceAdd, Nat.reduceSub, Nat.reduceLT, Nat.reduceMul, Nat.reduceBEq, Nat.reduceLeDiff, ↓reduceIte, Int.reduceToNat, Nat.reduceGT, Int.reduceLE, Int.reduceLT, Int.reduceGE, Int.reduceGT, Int.reduceEq, Int.reduceNe, reduceCtorEq]
        refine append0_by Try.k26 Try.s73 Try.y73 Try.z73 rfl (by decide) rfl (Cast.nil 2) rfl (Cast.refl _) (ones_params2 _) (by simp [maxLen]; omega) (by simp; omega) (by simp [go_sem]) (fun hv => ?_)
        simp only [go_sem, Nat.reduceEqDiff, Nat.reduceAdd, Nat.reduceSub, Nat.reduceLT, Nat.reduceMul, Nat.reduceBEq, Nat.reduceLeDiff, ↓reduceIte, Int.reduceToNat, Nat.reduceGT, Int.reduceLE, Int.reduceLT, Int.reduceGE, Int.reduceGT, Int.reduceEq, Int.reduceNe, reduceCtorEq]
        refine append0_by Try.k26 Try.s73 Try.y73 Try.z73 rfl (by decide) rfl (Cast.nil 2) rfl (Cast.refl _) (ones_params2 _) (by simp [maxLen]; omega) (by simp; omega) (by simp [go_sem]) (fun hl => ?_)
        simp only [go_sem, Nat.reduceEqDiff, Nat.reduceAdd, Nat.reduceSub, Nat.reduceLT, Nat.reduceMul, Nat.reduceBEq, Nat.reduceLeDiff, ↓reduceIte, Int.reduceToNat, Nat.reduceGT, Int.reduceLE, Int.reduceLT, Int.reduceGE, Int.reduceGT, Int.reduceEq, Int.reduceNe, reduceCtorEq]
        have cc := fun hp (hg : GOk hp) => ccheck_calls p hpf hp hg
        have cy := fun hp (hg : GOk hp) => ctype_calls p hpf h1 h2 V L (by omega) (by omega) t hp hg
        have cf := fun hp (hg : GOk hp) => cfault_own p hpf hp hg
        have c1 := fun hp => sameProg_calls q p ⟨hq.ds.symm, hq.fs.symm⟩ (by have := congrArg List.length hq.fs; simp at this; omega) (copy_nodes hq hfw.2) hp
        have c2 := fun hp => sameT_calls (nodesT t') t' t (Nat.le_refl _) (by rw [bare_nodes ht']; omega) ht' hp
        have c3 := fun hp => sameParams_calls hv h1 V hp
        have c4 := fun hp => sameParams_calls hl h2 L hp
        simp only [ProgG.av, ProgG.cs, declsAV, funsAV, TermG.av, TermG.cs_eq, paramsAV] at cc cy cf c1 c2 c3 c4
        refine callX_by (cc _ hg) ?_
        rintro r hp3 ⟨rfl, e3⟩
        subst hp3
        simp only [go_sem, Nat.reduceEqDiff, Nat.reduceAdd, Nat.reduceSub, Nat.reduceLT, Nat.reduceMul, Nat.reduceBEq, Nat.reduceLeDiff, ↓reduceIte, Int.reduceToNat, Nat.reduceGT, Int.reduceLE, Int.reduceLT, Int.reduceGE, Int.reduceGT, Int.reduceEq, Int.reduceNe, reduceCtorEq]
        refine callX_by (cy _ hg) ?_
        rintro r hp3 ⟨rfl, e3⟩
        subst hp3
        simp only [go_sem, Nat.reduceEqDiff, Nat.reduceAdd, Nat.reduceSub, Nat.reduceLT, Nat.reduceMul, Nat.reduceBEq, Nat.reduceLeDiff, ↓reduceIte, Int.reduceToNat, Nat.reduceGT, Int.reduceLE, Int.reduceLT, Int.reduceGE, Int.reduceGT, Int.reduceEq, Int.reduceNe, reduceCtorEq]
        refine callX_by (cf _ hg) ?_
        have hsp : hp2.le (hp2.setSp ((73, 2, hl) :: (73, 2, hv) :: hp2.sp)) := ⟨fun _ _ h => h, fun _ _ h => h, (List.sublist_cons_self _ _).trans (List.sublist_cons_self _ _), fun _ h => h⟩
        rintro r hp3 (⟨i, ok, c, rfl, e3⟩ | ⟨i, a, b, cap, rest, ha, rfl, hac, hcap, hb, e3⟩)
        · subst hp3
          simp only [go_sem, Nat.reduceEqDiff, Nat.reduceAdd, Nat.reduceSub, Nat.reduceLT, Nat.reduceMul, Nat.reduceBEq, Nat.reduceLeDiff, ↓reduceIte, Int.reduceToNat, Nat.reduceGT, Int.reduceLE, Int.reduceLT, Int.reduceGE, Int.reduceGT, Int.reduceEq, Int.reduceNe, reduceCtorEq]
          refine aw_loopX 111 (fun k : Nat => [(1, .lst 2 h1 (V.map ParamG.av)), (2, .lst 2 h2 (L.map ParamG.av)), (4, .ref q1 [.lst 3 p.hd (p.ds.map DeclG.av), .lst 9 p.hf (p.fs.map FunG.av)]), (7, .ref q2 [.v (.int .i64 t.op), .v (.int .i64 t.n), .v (.string (bs t.name)), .v (.int .i64 t.ty), .lst 6 t.ha (t.args.map TermG.av), .lst 7 t.hc (t.cls.map ClauseG.av)]), (9, .ref v9 [.lst 3 q.hd (q.ds.map DeclG.av), .lst 9 q.hf (q.fs.map FunG.av)]), (10, .ref v10 [.v (.int .i64 t'.op), .v (.int .i64 t'.n), .v (.string (bs t'.name)), .v (.int .i64 t'.ty), .lst 6 t'.ha (t'.args.map TermG.av), .lst 7 t'.hc (t'.cls.map ClauseG.av)]), (11, .lst 2 hv (V.map ParamG.av)), (12, .lst 2 hl (L.map ParamG.av)), (65, .v (.slice none 0 0)), (66, .v (.int .i64 0)), (67, .v (.int .i64 0))])
            (fun _ => hp2.setSp ((73, 2, hl) :: (73, 2, hv) :: hp2.sp)) (fun _ => True) (fun _ => 0) 0 trivial (le_mkSl rfl (Hp.le_refl _) (by simp [go_sem])) ?_
          intro k _
          refine awp_sound (mu := [72]) _ _ _ ?_
          simp only [go_sem, Nat.reduceEqDiff, Nat.reduceAdd, Nat.reduceSub, Nat.reduceLT, Nat.reduceMul, Nat.reduceBEq, Nat.reduceLeDiff, ↓reduceIte, Int.reduceToNat, Nat.reduceGT, Int.reduceLE, Int.reduceLT, Int.reduceGE, Int.reduceGT, Int.reduceEq, Int.reduceNe, reduceCtorEq]

          refine callX_by (cf _ hg) ?_
          rintro r hp4 (⟨i2, ok2, e2, rfl, e4⟩ | ⟨i2, a2, b', cap2, rest2, ha2, rfl, hac2, hcap2, hb', e4⟩)
          · subst hp4
            simp only [go_sem, Nat.reduceEqDiff, Nat.reduceAdd, Nat.reduceSub, Nat.reduceLT, Nat.reduceMul, Nat.reduceBEq, Nat.reduceLeDiff, ↓reduceIte, Int.reduceToNat, Nat.reduceGT, Int.reduceLE, Int.reduceLT, Int.reduceGE, Int.reduceGT, Int.reduceEq, Int.reduceNe, reduceCtorEq]
            refine aw_loopX 111 (fun k : Nat => [(1, .lst 2 h1 (V.map ParamG.av)), (2, .lst 2 h2 (L.map ParamG.av)), (4, .ref q1 [.lst 3 p.hd (p.ds.map DeclG.av), .lst 9 p.hf (p.fs.map FunG.av)]), (7, .ref q2 [.v (.int .i64 t.op), .v (.int .i64 t.n), .v (.string (bs t.name)), .v (.int .i64 t.ty), .lst 6 t.ha (t.args.map TermG.av), .lst 7 t.hc (t.cls.map ClauseG.av)]), (9, .ref v9 [.lst 3 q.hd (q.ds.map DeclG.av), .lst 9 q.hf (q.fs.map FunG.av)]), (10, .ref v10 [.v (.int .i64 t'.op), .v (.int .i64 t'.n), .v (.string (bs t'.name)), .v (.int .i64 t'.ty), .lst 6 t'.ha (t'.args.map TermG.av), .lst 7 t'.hc (t'.cls.map ClauseG.av)]), (11, .lst 2 hv (V.map ParamG.av)), (12, .lst 2 hl (L.map ParamG.av)), (81, .v (.slice none 0 0)), (82, .v (.int .i64 0)), (83, .v (.int .i64 0))])
              (fun _ => hp2.setSp ((73, 2, hl) :: (73, 2, hv) :: hp2.sp)) (fun _ => True) (fun _ => 0) 0 trivial (le_mkSl rfl (Hp.le_refl _) (by simp [go_sem])) ?_
            intro k _
            refine awp_sound (mu := [72]) _ _ _ ?_
            simp only [go_sem, Nat.reduceEqDiff, Nat.reduceAdd, Nat.reduceSub, Nat.reduceLT, Nat.reduceMul, Nat.reduceBEq, Nat.reduceLeDiff, ↓reduceIte, Int.reduceToNat, Nat.reduceGT, Int.reduceLE, Int.reduceLT, Int.reduceGE, Int.reduceGT, Int.reduceEq, Int.reduceNe, reduceCtorEq]

            refine callX_by (c1 _) ?_
            rintro r hp5 ⟨rfl, e5⟩
            subst hp5
            simp only [go_sem, Nat.reduceEqDiff, Nat.reduceAdd, Nat.reduceSub, Nat.reduceLT, Nat.reduceMul, Nat.reduceBEq, Nat.reduceLeDiff, ↓reduceIte, Int.reduceToNat, Nat.reduceGT, Int.reduceLE, Int.reduceLT, Int.reduceGE, Int.reduceGT, Int.reduceEq, Int.reduceNe, reduceCtorEq]
            refine callX_by (c2 _) ?_
            rintro r hp5 ⟨rfl, e5⟩
            subst hp5
            simp only [go_sem, Nat.reduceEqDiff, Nat.reduceAdd, Nat.reduceSub, Nat.reduceLT, Nat.reduceMul, Nat.reduceBEq, Nat.reduceLeDiff, ↓reduceIte, Int.reduceToNat, Nat.reduceGT, Int.reduceLE, Int.reduceLT, Int.reduceGE, Int.reduceGT, Int.reduceEq, Int.reduceNe, reduceCtorEq]
            refine callX_by (c3 _) ?_
            rintro r hp5 ⟨rfl, e5⟩
            subst hp5
            simp only [go_sem, Nat.reduceEqDiff, Nat.reduceAdd, Nat.reduceSub, Nat.reduceLT, Nat.reduceMul, Nat.reduceBEq, Nat.reduceLeDiff, ↓reduceIte, Int.reduceToNat, Nat.reduceGT, Int.reduceLE, Int.reduceLT, Int.reduceGE, Int.reduceGT, Int.reduceEq, Int.reduceNe, reduceCtorEq]
            refine callX_by (c4 _) ?_
            rintro r hp5 ⟨rfl, e5⟩
            subst hp5
            simp only [go_sem, Nat.reduceEqDiff, Nat.reduceAdd, Nat.reduceSub, Nat.reduceLT, Nat.reduceMul, Nat.reduceBEq, Nat.reduceLeDiff, ↓reduceIte, Int.reduceToNat, Nat.reduceGT, Int.reduceLE, Int.reduceLT, Int.reduceGE, Int.reduceGT, Int.reduceEq, Int.reduceNe, reduceCtorEq]
            refine callX_by (aw _ hg) ?_
            rintro r hp5 ⟨rfl, e5⟩
            subst hp5
            simp only [go_sem, Nat.reduceEqDiff, Nat.reduceAdd, Nat.reduceSub, Nat.reduceLT, Nat.reduceMul, Nat.reduceBEq, Nat.reduceLeDiff, ↓reduceIte, Int.reduceToNat, Nat.reduceGT, Int.reduceLE, Int.reduceLT, Int.reduceGE, Int.reduceGT, Int.reduceEq, Int.reduceNe, reduceCtorEq]
            exact ret_le (hp' := hp2) hsp ⟨rfl, rfl⟩
          · subst hp4
            simp only [go_sem, Nat.reduceEqDiff, Nat.reduceAdd, Nat.reduceSub, Nat.reduceLT, Nat.reduceMul, Nat.reduceBEq, Nat.reduceLeDiff, ↓reduceIte, Int.reduceToNat, Nat.reduceGT, Int.reduceLE, Int.reduceLT, Int.reduceGE, Int.reduceGT, Int.reduceEq, Int.reduceNe, reduceCtorEq]
            refine aw_loopX 111 (fun k : Nat => [(1, .lst 2 h1 (V.map ParamG.av)), (2, .lst 2 h2 (L.map ParamG.av)), (4, .ref q1 [.lst 3 p.hd (p.ds.map DeclG.av), .lst 9 p.hf (p.fs.map FunG.av)]), (7, .ref q2 [.v (.int .i64 t.op), .v (.int .i64 t.n), .v (.string (bs t.name)), .v (.int .i64 t.ty), .lst 6 t.ha (t.args.map TermG.av), .lst 7 t.hc (t.cls.map ClauseG.av)]), (9, .ref v9 [.lst 3 q.hd (q.ds.map DeclG.av), .lst 9 q.hf (q.fs.map FunG.av)]), (10, .ref v10 [.v (.int .i64 t'.op), .v (.int .i64 t'.n), .v (.string (bs t'.name)), .v (.int .i64 t'.ty), .lst 6 t'.ha (t'.args.map TermG.av), .lst 7 t'.hc (t'.cls.map ClauseG.av)]), (11, .lst 2 hv (V.map ParamG.av)), (12, .lst 2 hl (L.map ParamG.av)), (81, .v (.slice (some ⟨b', 0, none⟩) a2.length cap2)), (82, .v (.int .i64 a2.length)), (83, .v (.int .i64 k))])
              (fun _ => (hp2.setSp ((73, 2, hl) :: (73, 2, hv) :: hp2.sp)).setBlk b' 3 (ivs a2 ++ rest2)) (fun k => k ≤ a2.length) (fun k => a2.length - k) 0 (Nat.zero_le _) (le_mkSl rfl (Hp.le_refl _) (by simp [go_sem])) ?_
            intro k hk
            refine awp_sound (mu := [72]) _ _ _ ?_
            simp only [go_sem, Nat.reduceEqDiff, Nat.reduceAdd, Nat.reduceSub, Nat.reduceLT, Nat.reduceMul, Nat.reduceBEq, Nat.reduceLeDiff, ↓reduceIte, Int.reduceToNat, Nat.reduceGT, Int.reduceLE, Int.reduceLT, Int.reduceGE, Int.reduceGT, Int.reduceEq, Int.reduceNe, reduceCtorEq]
            refine brK_mk (fun b6 => ?_) (fun b6 => ?_) <;> simp only [go_sem, Nat.reduceEqDiff, Nat.reduceAdd, Nat.reduceSub, Nat.reduceLT, Nat.reduceMul, Nat.reduceBEq, Nat.reduceLeDiff, ↓reduceIte, Int.reduceToNat, Nat.reduceGT, Int.reduceLE, Int.reduceLT, Int.reduceGE, Int.reduceGT, Int.reduceEq, Int.reduceNe, reduceCtorEq, b6]
            · have hk' : k < a2.length := by simpa using b6
              obtain ⟨x, hx⟩ := someAt a2 k hk'
              have hx0 := ha2 x (List.mem_of_getElem? hx)
              have hwk : IntKind.i64.wrap ((k : Int) + 1) = ((k + 1 : Nat) : Int) := upK k _ hk' (by omega)
              refine ⟨by omega, ?_⟩
              rw [ivs_drop a2 rest2 k x hx]
              simp only [go_sem, Nat.reduceEqDiff, Nat.reduceAdd, Nat.reduceSub, Nat.reduceLT, Nat.reduceMul, Nat.reduceBEq, Nat.reduceLeDiff, ↓reduceIte, Int.reduceToNat, Nat.reduceGT, Int.reduceLE, Int.reduceLT, Int.reduceGE, Int.reduceGT, Int.reduceEq, Int.reduceNe, reduceCtorEq, decide_eq_false (show ¬ x < 0 by omega), hwk]
              exact ⟨k + 1, by omega, by omega, le_mkSl rfl (Hp.le_refl _) (by simp [go_sem, hwk])⟩
            · refine callX_by (c1 _) ?_
              rintro r hp5 ⟨rfl, e5⟩
              subst hp5
              simp only [go_sem, Nat.reduceEqDiff, Nat.reduceAdd, Nat.reduceSub, Nat.reduceLT, Nat.reduceMul, Nat.reduceBEq, Nat.reduceLeDiff, ↓reduceIte, Int.reduceToNat, Nat.reduceGT, Int.reduceLE, Int.reduceLT, Int.reduceGE, Int.reduceGT, Int.reduceEq, Int.reduceNe, reduceCtorEq]
              refine callX_by (c2 _) ?_
              rintro r hp5 ⟨rfl, e5⟩
              subst hp5
              simp only [go_sem, Nat.reduceEqDiff, Nat.reduceAdd, Nat.reduceSub, Nat.reduceLT, Nat.reduceMul, Nat.reduceBEq, Nat.reduceLeDiff, ↓reduceIte, Int.reduceToNat, Nat.reduceGT, Int.reduceLE, Int.reduceLT, Int.reduceGE, Int.reduceGT, Int.reduceEq, Int.reduceNe, reduceCtorEq]
              refine callX_by (c3 _) ?_
              rintro r hp5 ⟨rfl, e5⟩
              subst hp5
              simp only [go_sem, Nat.reduceEqDiff, Nat.reduceAdd, Nat.reduceSub, Nat.reduceLT, Nat.reduceMul, Nat.reduceBEq, Nat.reduceLeDiff, ↓reduceIte, Int.reduceToNat, Nat.reduceGT, Int.reduceLE, Int.reduceLT, Int.reduceGE, Int.reduceGT, Int.reduceEq, Int.reduceNe, reduceCtorEq]
              refine callX_by (c4 _) ?_
              rintro r hp5 ⟨rfl, e5⟩
              subst hp5
              simp only [go_sem, Nat.reduceEqDiff, Nat.reduceAdd, Nat.reduceSub, Nat.reduceLT, Nat.reduceMul, Nat.reduceBEq, Nat.reduceLeDiff, ↓reduceIte, Int.reduceToNat, Nat.reduceGT, Int.reduceLE, Int.reduceLT, Int.reduceGE, Int.reduceGT, Int.reduceEq, Int.reduceNe, reduceCtorEq]
              refine callX_by (aw _ hg) ?_
              rintro r hp5 ⟨rfl, e5⟩
              subst hp5
              simp only [go_sem, Nat.reduceEqDiff, Nat.reduceAdd, Nat.reduceSub, Nat.reduceLT, Nat.reduceMul, Nat.reduceBEq, Nat.reduceLeDiff, ↓reduceIte, Int.reduceToNat, Nat.reduceGT, Int.reduceLE, Int.reduceLT, Int.reduceGE, Int.reduceGT, Int.reduceEq, Int.reduceNe, reduceCtorEq]
              exact ret_le (hp' := hp2) (Hp.le_trans hsp (fresh_le hb')) ⟨rfl, rfl⟩
        · subst hp3
          simp only [go_sem, Nat.reduceEqDiff, Nat.reduceAdd, Nat.reduceSub, Nat.reduceLT, Nat.reduceMul, Nat.reduceBEq, Nat.reduceLeDiff, ↓reduceIte, Int.reduceToNat, Nat.reduceGT, Int.reduceLE, Int.reduceLT, Int.reduceGE, Int.reduceGT, Int.reduceEq, Int.reduceNe, reduceCtorEq]
          refine aw_loopX 111 (fun x : Nat × List Int => [(1, .lst 2 h1 (V.map ParamG.av)), (2, .lst 2 h2 (L.map ParamG.av)), (4, .ref q1 [.lst 3 p.hd (p.ds.map DeclG.av), .lst 9 p.hf (p.fs.map FunG.av)]), (7, .ref q2 [.v (.int .i64 t.op), .v (.int .i64 t.n), .v (.string (bs t.name)), .v (.int .i64 t.ty), .lst 6 t.ha (t.args.map TermG.av), .lst 7 t.hc (t.cls.map ClauseG.av)]), (9, .ref v9 [.lst 3 q.hd (q.ds.map DeclG.av), .lst 9 q.hf (q.fs.map FunG.av)]), (10, .ref v10 [.v (.int .i64 t'.op), .v (.int .i64 t'.n), .v (.string (bs t'.name)), .v (.int .i64 t'.ty), .lst 6 t'.ha (t'.args.map TermG.av), .lst 7 t'.hc (t'.cls.map ClauseG.av)]), (11, .lst 2 hv (V.map ParamG.av)), (12, .lst 2 hl (L.map ParamG.av)), (14, .v (.slice (some ⟨b, 0, none⟩) a.length cap)), (65, .v (.slice (some ⟨b, 0, none⟩) a.length cap)), (66, .v (.int .i64 a.length)), (67, .v (.int .i64 x.1))])
            (fun x => (hp2.setSp ((73, 2, hl) :: (73, 2, hv) :: hp2.sp)).setBlk b 3 (ivs x.2 ++ rest)) (fun x => x.1 ≤ a.length ∧ x.2.length = a.length) (fun x => a.length - x.1) (0, a) ⟨Nat.zero_le _, rfl⟩ (le_mkSl rfl (Hp.le_refl _) (by simp [go_sem])) ?_
          rintro ⟨k, u⟩ ⟨hk, hu⟩
          simp only at hk hu
          refine awp_sound (mu := [72]) _ _ _ ?_
          simp only [go_sem, Nat.reduceEqDiff, Nat.reduceAdd, Nat.reduceSub, Nat.reduceLT, Nat.reduceMul, Nat.reduceBEq, Nat.reduceLeDiff, ↓reduceIte, Int.reduceToNat, Nat.reduceGT, Int.reduceLE, Int.reduceLT, Int.reduceGE, Int.reduceGT, Int.reduceEq, Int.reduceNe, reduceCtorEq]
          refine brK_mk (fun b5 => ?_) (fun b5 => ?_) <;> simp only [go_sem, Nat.reduceEqDiff, Nat.reduceAdd, Nat.reduceSub, Nat.reduceLT, Nat.reduceMul, Nat.reduceBEq, Nat.reduceLeDiff, ↓reduceIte, Int.reduceToNat, Nat.reduceGT, Int.reduceLE, Int.reduceLT, Int.reduceGE, Int.reduceGT, Int.reduceEq, Int.reduceNe, reduceCtorEq, b5]
          · have hk' : k < a.length := by simpa using b5
            obtain ⟨x, hx⟩ := someAt u k (by omega)
            have hwk : IntKind.i64.wrap ((k : Int) + 1) = ((k + 1 : Nat) : Int) := upK k _ hk' (by omega)
            refine ⟨by omega, ?_⟩
            refine ⟨by rw [List.length_append, ivs_len]; omega, (k + 1, u.set k (-1)), by simp only; omega, ⟨by simp only; omega, by simp [hu]⟩, le_mkSl rfl (by simp only [go_sem, Nat.reduceEqDiff, Nat.reduceAdd, Nat.reduceSub, Nat.reduceLT, Nat.reduceMul, Nat.reduceBEq, Nat.reduceLeDiff, ↓reduceIte, Int.reduceToNat, Nat.reduceGT, Int.reduceLE, Int.reduceLT, Int.reduceGE, Int.reduceGT, Int.reduceEq, Int.reduceNe, reduceCtorEq]; rw [ivs_set u rest k (-1) (by omega)]; exact Hp.le_refl _) (by simp [go_sem, hwk])⟩
          · refine callX_by (cf _ hg) ?_
            rintro r hp4 (⟨i2, ok2, e2, rfl, e4⟩ | ⟨i2, a2, b', cap2, rest2, ha2, rfl, hac2, hcap2, hb', e4⟩)
            · subst hp4
              simp only [go_sem, Nat.reduceEqDiff, Nat.reduceAdd, Nat.reduceSub, Nat.reduceLT, Nat.reduceMul, Nat.reduceBEq, Nat.reduceLeDiff, ↓reduceIte, Int.reduceToNat, Nat.reduceGT, Int.reduceLE, Int.reduceLT, Int.reduceGE, Int.reduceGT, Int.reduceEq, Int.reduceNe, reduceCtorEq]
              refine aw_loopX 111 (fun k : Nat => [(1, .lst 2 h1 (V.map ParamG.av)), (2, .lst 2 h2 (L.map ParamG.av)), (4, .ref q1 [.lst 3 p.hd (p.ds.map DeclG.av), .lst 9 p.hf (p.fs.map FunG.av)]), (7, .ref q2 [.v (.int .i64 t.op), .v (.int .i64 t.n), .v (.string (bs t.name)), .v (.int .i64 t.ty), .lst 6 t.ha (t.args.map TermG.av), .lst 7 t.hc (t.cls.map ClauseG.av)]), (9, .ref v9 [.lst 3 q.hd (q.ds.map DeclG.av), .lst 9 q.hf (q.fs.map FunG.av)]), (10, .ref v10 [.v (.int .i64 t'.op), .v (.int .i64 t'.n), .v (.string (bs t'.name)), .v (.int .i64 t'.ty), .lst 6 t'.ha (t'.args.map TermG.av), .lst 7 t'.hc (t'.cls.map ClauseG.av)]), (11, .lst 2 hv (V.map ParamG.av)), (12, .lst 2 hl (L.map ParamG.av)), (81, .v (.slice none 0 0)), (82, .v (.int .i64 0)), (83, .v (.int .i64 0))])
                (fun _ => (hp2.setSp ((73, 2, hl) :: (73, 2, hv) :: hp2.sp)).setBlk b 3 (ivs u ++ rest)) (fun _ => True) (fun _ => 0) 0 trivial (le_mkSl rfl (Hp.le_refl _) (by simp [go_sem])) ?_
              intro k _
              refine awp_sound (mu := [72]) _ _ _ ?_
              simp only [go_sem, Nat.reduceEqDiff, Nat.reduceAdd, Nat.reduceSub, Nat.reduceLT, Nat.reduceMul, Nat.reduceBEq, Nat.reduceLeDiff, ↓reduceIte, Int.reduceToNat, Nat.reduceGT, Int.reduceLE, Int.reduceLT, Int.reduceGE, Int.reduceGT, Int.reduceEq, Int.reduceNe, reduceCtorEq]

              refine callX_by (c1 _) ?_
              rintro r hp5 ⟨rfl, e5⟩
              subst hp5
              simp only [go_sem, Nat.reduceEqDiff, Nat.reduceAdd, Nat.reduceSub, Nat.reduceLT, Nat.reduceMul, Nat.reduceBEq, Nat.reduceLeDiff, ↓reduceIte, Int.reduceToNat, Nat.reduceGT, Int.reduceLE, Int.reduceLT, Int.reduceGE, Int.reduceGT, Int.reduceEq, Int.reduceNe, reduceCtorEq]
              refine callX_by (c2 _) ?_
              rintro r hp5 ⟨rfl, e5⟩
              subst hp5
              simp only [go_sem, Nat.reduceEqDiff, Nat.reduceAdd, Nat.reduceSub, Nat.reduceLT, Nat.reduceMul, Nat.reduceBEq, Nat.reduceLeDiff, ↓reduceIte, Int.reduceToNat, Nat.reduceGT, Int.reduceLE, Int.reduceLT, Int.reduceGE, Int.reduceGT, Int.reduceEq, Int.reduceNe, reduceCtorEq]
              refine callX_by (c3 _) ?_
              rintro r hp5 ⟨rfl, e5⟩
              subst hp5
              simp only [go_sem, Nat.reduceEqDiff, Nat.reduceAdd, Nat.reduceSub, Nat.reduceLT, Nat.reduceMul, Nat.reduceBEq, Nat.reduceLeDiff, ↓reduceIte, Int.reduceToNat, Nat.reduceGT, Int.reduceLE, Int.reduceLT, Int.reduceGE, Int.reduceGT, Int.reduceEq, Int.reduceNe, reduceCtorEq]
              refine callX_by (c4 _) ?_
              rintro r hp5 ⟨rfl, e5⟩
              subst hp5
              simp only [go_sem, Nat.reduceEqDiff, Nat.reduceAdd, Nat.reduceSub, Nat.reduceLT, Nat.reduceMul, Nat.reduceBEq, Nat.reduceLeDiff, ↓reduceIte, Int.reduceToNat, Nat.reduceGT, Int.reduceLE, Int.reduceLT, Int.reduceGE, Int.reduceGT, Int.reduceEq, Int.reduceNe, reduceCtorEq]
              refine callX_by (aw _ hg) ?_
              rintro r hp5 ⟨rfl, e5⟩
              subst hp5
              simp only [go_sem, Nat.reduceEqDiff, Nat.reduceAdd, Nat.reduceSub, Nat.reduceLT, Nat.reduceMul, Nat.reduceBEq, Nat.reduceLeDiff, ↓reduceIte, Int.reduceToNat, Nat.reduceGT, Int.reduceLE, Int.reduceLT, Int.reduceGE, Int.reduceGT, Int.reduceEq, Int.reduceNe, reduceCtorEq]
              exact ret_le (hp' := hp2) (Hp.le_trans hsp (fresh_le hb)) ⟨rfl, rfl⟩
            · subst hp4
              simp only [go_sem, Nat.reduceEqDiff, Nat.reduceAdd, Nat.reduceSub, Nat.reduceLT, Nat.reduceMul, Nat.reduceBEq, Nat.reduceLeDiff, ↓reduceIte, Int.reduceToNat, Nat.reduceGT, Int.reduceLE, Int.reduceLT, Int.reduceGE, Int.reduceGT, Int.reduceEq, Int.reduceNe, reduceCtorEq]
              refine aw_loopX 111 (fun k : Nat => [(1, .lst 2 h1 (V.map ParamG.av)), (2, .lst 2 h2 (L.map ParamG.av)), (4, .ref q1 [.lst 3 p.hd (p.ds.map DeclG.av), .lst 9 p.hf (p.fs.map FunG.av)]), (7, .ref q2 [.v (.int .i64 t.op), .v (.int .i64 t.n), .v (.string (bs t.name)), .v (.int .i64 t.ty), .lst 6 t.ha (t.args.map TermG.av), .lst 7 t.hc (t.cls.map ClauseG.av)]), (9, .ref v9 [.lst 3 q.hd (q.ds.map DeclG.av), .lst 9 q.hf (q.fs.map FunG.av)]), (10, .ref v10 [.v (.int .i64 t'.op), .v (.int .i64 t'.n), .v (.string (bs t'.name)), .v (.int .i64 t'.ty), .lst 6 t'.ha (t'.args.map TermG.av), .lst 7 t'.hc (t'.cls.map ClauseG.av)]), (11, .lst 2 hv (V.map ParamG.av)), (12, .lst 2 hl (L.map ParamG.av)), (81, .v (.slice (some ⟨b', 0, none⟩) a2.length cap2)), (82, .v (.int .i64 a2.length)), (83, .v (.int .i64 k))])
                (fun _ => ((hp2.setSp ((73, 2, hl) :: (73, 2, hv) :: hp2.sp)).setBlk b 3 (ivs u ++ rest)).setBlk b' 3 (ivs a2 ++ rest2)) (fun k => k ≤ a2.length) (fun k => a2.length - k) 0 (Nat.zero_le _) (le_mkSl rfl (Hp.le_refl _) (by simp [go_sem])) ?_
              intro k hk
              refine awp_sound (mu := [72]) _ _ _ ?_
              simp only [go_sem, Nat.reduceEqDiff, Nat.reduceAdd, Nat.reduceSub, Nat.reduceLT, Nat.reduceMul, Nat.reduceBEq, Nat.reduceLeDiff, ↓reduceIte, Int.reduceToNat, Nat.reduceGT, Int.reduceLE, Int.reduceLT, Int.reduceGE, Int.reduceGT, Int.reduceEq, Int.reduceNe, reduceCtorEq]
              refine brK_mk (fun b6 => ?_) (fun b6 => ?_) <;> simp only [go_sem, Nat.reduceEqDiff, Nat.reduceAdd, Nat.reduceSub, Nat.reduceLT, Nat.reduceMul, Nat.reduceBEq, Nat.reduceLeDiff, ↓reduceIte, Int.reduceToNat, Nat.reduceGT, Int.reduceLE, Int.reduceLT, Int.reduceGE, Int.reduceGT, Int.reduceEq, Int.reduceNe, reduceCtorEq, b6]
              · have hk' : k < a2.length := by simpa using b6
                obtain ⟨x, hx⟩ := someAt a2 k hk'
                have hx0 := ha2 x (List.mem_of_getElem? hx)
                have hwk : IntKind.i64.wrap ((k : Int) + 1) = ((k + 1 : Nat) : Int) := upK k _ hk' (by omega)
                refine ⟨by omega, ?_⟩
                rw [ivs_drop a2 rest2 k x hx]
                simp only [go_sem, Nat.reduceEqDiff, Nat.reduceAdd, Nat.reduceSub, Nat.reduceLT, Nat.reduceMul, Nat.reduceBEq, Nat.reduceLeDiff, ↓reduceIte, Int.reduceToNat, Nat.reduceGT, Int.reduceLE, Int.reduceLT, Int.reduceGE, Int.reduceGT, Int.reduceEq, Int.reduceNe, reduceCtorEq, decide_eq_false (show ¬ x < 0 by omega), hwk]
                exact ⟨k + 1, by omega, by omega, le_mkSl rfl (Hp.le_refl _) (by simp [go_sem, hwk])⟩
              · refine callX_by (c1 _) ?_
                rintro r hp5 ⟨rfl, e5⟩
                subst hp5
                simp only [go_sem, Nat.reduceEqDiff, Nat.reduceAdd, Nat.reduceSub, Nat.reduceLT, Nat.reduceMul, Nat.reduceBEq, Nat.reduceLeDiff, ↓reduceIte, Int.reduceToNat, Nat.reduceGT, Int.reduceLE, Int.reduceLT, Int.reduceGE, Int.reduceGT, Int.reduceEq, Int.reduceNe, reduceCtorEq]
                refine callX_by (c2 _) ?_
                rintro r hp5 ⟨rfl, e5⟩
                subst hp5
                simp only [go_sem, Nat.reduceEqDiff, Nat.reduceAdd, Nat.reduceSub, Nat.reduceLT, Nat.reduceMul, Nat.reduceBEq, Nat.reduceLeDiff, ↓reduceIte, Int.reduceToNat, Nat.reduceGT, Int.reduceLE, Int.reduceLT, Int.reduceGE, Int.reduceGT, Int.reduceEq, Int.reduceNe, reduceCtorEq]
                refine callX_by (c3 _) ?_
                rintro r hp5 ⟨rfl, e5⟩
                subst hp5
                simp only [go_sem, Nat.reduceEqDiff, Nat.reduceAdd, Nat.reduceSub, Nat.reduceLT, Nat.reduceMul, Nat.reduceBEq, Nat.reduceLeDiff, ↓reduceIte, Int.reduceToNat, Nat.reduceGT, Int.reduceLE, Int.reduceLT, Int.reduceGE, Int.reduceGT, Int.reduceEq, Int.reduceNe, reduceCtorEq]
                refine callX_by (c4 _) ?_
                rintro r hp5 ⟨rfl, e5⟩
                subst hp5
                simp only [go_sem, Nat.reduceEqDiff, Nat.reduceAdd, Nat.reduceSub, Nat.reduceLT, Nat.reduceMul, Nat.reduceBEq, Nat.reduceLeDiff, ↓reduceIte, Int.reduceToNat, Nat.reduceGT, Int.reduceLE, Int.reduceLT, Int.reduceGE, Int.reduceGT, Int.reduceEq, Int.reduceNe, reduceCtorEq]
                refine callX_by (aw _ hg) ?_
                rintro r hp5 ⟨rfl, e5⟩
                subst hp5
                simp only [go_sem, Nat.reduceEqDiff, Nat.reduceAdd, Nat.reduceSub, Nat.reduceLT, Nat.reduceMul, Nat.reduceBEq, Nat.reduceLeDiff, ↓reduceIte, Int.reduceToNat, Nat.reduceGT, Int.reduceLE, Int.reduceLT, Int.reduceGE, Int.reduceGT, Int.reduceEq, Int.reduceNe, reduceCtorEq]
                exact ret_le (hp' := hp2) (Hp.le_trans (Hp.le_trans hsp (fresh_le (cs := ivs u ++ rest) hb)) (fresh_le hb')) ⟨rfl, rfl⟩
    · refine callX_by (aw _ hg) ?_
      rintro r hp9 ⟨rfl, rfl⟩
      simp only [go_sem, Nat.reduceEqDiff, Nat.reduceAdd, Nat.reduceSub, Nat.reduceLT, Nat.reduceMul, Nat.reduceBEq, Nat.reduceLeDiff, ↓reduceIte, Int.reduceToNat, Nat.reduceGT, Int.reduceLE, Int.reduceLT, Int.reduceGE, Int.reduceGT, Int.reduceEq, Int.reduceNe, reduceCtorEq]
      exact ret_same ⟨rfl, rfl⟩
  · refine callX_by (aw _ hg) ?_
    rintro r hp9 ⟨rfl, rfl⟩
    simp only [go_sem, Nat.reduceEqDiff, Nat.reduceAdd, Nat.reduceSub, Nat.reduceLT, Nat.reduceMul, Nat.reduceBEq, Nat.reduceLeDiff, ↓reduceIte, Int.reduceToNat, Nat.reduceGT, Int.reduceLE, Int.reduceLT, Int.reduceGE, Int.reduceGT, Int.reduceEq, Int.reduceNe, reduceCtorEq]
    exact ret_same ⟨rfl, rfl⟩
end Go.Proofs.Ytppoacgeiooppaa
