/- The law of the layer 'term': TermOwn, walked. -/
import Derived.Test.YtppoacgeiooppaaGreatCT90
import Derived.Test.YtppoacgeiooppaaGreatCT80
import Derived.Test.YtppoacgeiooppaaGreatCT62
import Derived.Test.YtppoacgeiooppaaGreatCT43
import Derived.Test.YtppoacgeiooppaaGreatCT27
import Derived.Test.YtppoacgeiooppaaGreatCAL41
set_option linter.unusedSimpArgs false
set_option linter.unusedVariables false
set_option maxRecDepth 20000
set_option maxHeartbeats 4000000
namespace Go.Proofs.YtppoacgeiooppaaGreat
open Go.AL Go.RowKit

theorem le_gok {hp hp' : Hp} (h : hp.le hp') (hg : GOk hp) : GOk hp' := by
  obtain ⟨m, hm⟩ := hg
  exact ⟨m, h.gl _ hm⟩
mutual
theorem own_nodesT : ∀ t : TermG, nodesT (bareT t) = nodesT t
  | .mk _ _ _ _ _ args _ cls => by rw [bareT, nodesT, nodesT, own_nodesA args, own_nodesC cls]
theorem own_nodesA : ∀ l : List TermG, nodesA (bareA l) = nodesA l
  | [] => rfl
  | a :: r => by rw [bareA, nodesA, nodesA, own_nodesT a, own_nodesA r]
theorem own_nodesC : ∀ l : List ClauseG, nodesC (bareC l) = nodesC l
  | [] => rfl
  | .mk _ _ b :: r => by rw [bareC, nodesC, nodesC, bareB, nodesB, nodesB, own_nodesT b, own_nodesC r]
end
theorem own_bare {a b : TermG} (h : bareT a = bareT b) : nodesT a = nodesT b := by rw [← own_nodesT a, h, own_nodesT b]
theorem own_copy {p q : ProgG} (h : SameP p q) {m : Nat} (hp : ∀ f ∈ p.fs, nodesT f.body ≤ m) : ∀ f ∈ q.fs, nodesT f.body ≤ m := by
  intro f hf
  obtain ⟨k, hk⟩ := List.getElem?_of_mem hf
  obtain ⟨y, hy, hxy⟩ := map_at2 h.fs.symm hk
  simp only [FunG.bare, Prod.mk.injEq] at hxy
  rw [own_bare hxy.2.2.2]
  exact hp y (List.mem_of_getElem? hy)
theorem splice_len (cs : List AV) (k : Nat) (x : AV) (h : k + 1 ≤ cs.length) : (List.take k cs ++ [x] ++ List.drop (k + 1) cs).length = cs.length := by
  simp only [List.length_append, List.length_take, List.length_drop, List.length_cons, List.length_nil]; omega
theorem row_here {T : TypeId} {hp hp' : Hp} {hs : List Value} (r : AllRows T hp hs hp') {a : Option Addr} {n k : Nat} {c : Nat} (hm : Value.slice a n c ∈ hs) (hk : k < n) : ∃ b cs, a = some ⟨b, 0, none⟩ ∧ hp.blk b = none ∧ hp'.blk b = some (T, cs) ∧ n ≤ cs.length := by
  rcases r.row _ hm with ⟨a', c', e⟩ | ⟨b, n', cap, cs, e, h1, h2, h3⟩
  · cases e; omega
  · cases e; exact ⟨b, cs, rfl, h1, h2, h3⟩
theorem termOwn_calls (p : ProgG) (hpf : PFit p) (hsm : p.small) (h1 h2 : Value) (V L : List Bytes) (t : TermG) (hst : smT t) (hm : nmT t ≤ 5000000000000) (hp : Hp) (hg : GOk hp) :
    ACalls Tryz.prog 7 [p.av, strsAV h1 V, strsAV h2 L, t.av] hp (fun r hp' => r = .v (.bool true) ∧ hp' = hp) := by
  have hsh := smT_sh t hst
  refine acalls_of Tryz.func7 rfl (by decide +kernel) (aw_seq (awp_sound (mu := [78, 87, 107]) _ _ _ ?_))
  simp only [go_sem, Nat.reduceEqDiff, Nat.reduceAdd, Nat.reduceSub, Nat.reduceLT, Nat.reduceMul, Nat.reduceBEq, Nat.reduceLeDiff, ↓reduceIte, Int.reduceToNat, Nat.reduceGT, Int.reduceLE, Int.reduceLT, Int.reduceGE, Int.reduceGT, Int.reduceEq, Int.reduceNe, reduceCtorEq, ProgG.av, ProgG.cs, declsAV, funsAV, TermG.av, TermG.cs_eq, strsAV]
  intro q1 q2
  refine aw_seq (awp_sound (mu := [78, 87, 107]) _ _ _ ?_)
  simp only [go_sem, Nat.reduceEqDiff, Nat.reduceAdd, Nat.reduceSub, Nat.reduceLT, Nat.reduceMul, Nat.reduceBEq, Nat.reduceLeDiff, ↓reduceIte, Int.reduceToNat, Nat.reduceGT, Int.reduceLE, Int.reduceLT, Int.reduceGE, Int.reduceGT, Int.reduceEq, Int.reduceNe, reduceCtorEq]
  have aw : ∀ hp, GOk hp → ACalls Tryz.prog 22 [] hp (fun r hp' => r = .v (.bool true) ∧ hp' = hp) := fun hp hg => awake2_calls hp hg
  have c := fun hp => few_calls p 700 (by omega) hp
  simp only [ProgG.av, ProgG.cs, declsAV, funsAV] at c
  refine callX_by (c _) ?_
  clear c
  rintro r hp1 ⟨rfl, rfl⟩
  simp only [go_sem, Nat.reduceEqDiff, Nat.reduceAdd, Nat.reduceSub, Nat.reduceLT, Nat.reduceMul, Nat.reduceBEq, Nat.reduceLeDiff, ↓reduceIte, Int.reduceToNat, Nat.reduceGT, Int.reduceLE, Int.reduceLT, Int.reduceGE, Int.reduceGT, Int.reduceEq, Int.reduceNe, reduceCtorEq]
  refine brK_mk (fun b1 => ?_) (fun b1 => ?_) <;> simp only [go_sem, Nat.reduceEqDiff, Nat.reduceAdd, Nat.reduceSub, Nat.reduceLT, Nat.reduceMul, Nat.reduceBEq, Nat.reduceLeDiff, ↓reduceIte, Int.reduceToNat, Nat.reduceGT, Int.reduceLE, Int.reduceLT, Int.reduceGE, Int.reduceGT, Int.reduceEq, Int.reduceNe, reduceCtorEq, b1]
  · have c := fun hp => fits_t_calls t 700 (by omega) hp
    simp only [TermG.av, TermG.cs_eq] at c
    refine callX_by (c _) ?_
    clear c
    rintro r hp2 ⟨rfl, rfl⟩
    simp only [go_sem, Nat.reduceEqDiff, Nat.reduceAdd, Nat.reduceSub, Nat.reduceLT, Nat.reduceMul, Nat.reduceBEq, Nat.reduceLeDiff, ↓reduceIte, Int.reduceToNat, Nat.reduceGT, Int.reduceLE, Int.reduceLT, Int.reduceGE, Int.reduceGT, Int.reduceEq, Int.reduceNe, reduceCtorEq]
    refine brK_mk (fun b2 => ?_) (fun b2 => ?_) <;> simp only [go_sem, Nat.reduceEqDiff, Nat.reduceAdd, Nat.reduceSub, Nat.reduceLT, Nat.reduceMul, Nat.reduceBEq, Nat.reduceLeDiff, ↓reduceIte, Int.reduceToNat, Nat.reduceGT, Int.reduceLE, Int.reduceLT, Int.reduceGE, Int.reduceGT, Int.reduceEq, Int.reduceNe, reduceCtorEq, b2]
    · have ht700 : nodesT t ≤ 700 := of_decide_eq_true b2
      have hfw : p.fs.length ≤ 40 ∧ ∀ f ∈ p.fs, nodesT f.body ≤ 5000 := by
        rw [fewB, Bool.and_eq_true, Bool.and_eq_true] at b1
        obtain ⟨_, c2, c3⟩ := b1
        refine ⟨?_, fun f hf => ?_⟩
        · simp at c2; omega
        · have := of_decide_eq_true (List.all_eq_true.1 c3 f hf); omega
      refine brK_mk (fun b3 => ?_) (fun b3 => ?_) <;> simp only [go_sem, Nat.reduceEqDiff, Nat.reduceAdd, Nat.reduceSub, Nat.reduceLT, Nat.reduceMul, Nat.reduceBEq, Nat.reduceLeDiff, ↓reduceIte, Int.reduceToNat, Nat.reduceGT, Int.reduceLE, Int.reduceLT, Int.reduceGE, Int.reduceGT, Int.reduceEq, Int.reduceNe, reduceCtorEq, b3]
      · refine callX_by (aw _ hg) ?_
        rintro r hp9 ⟨rfl, rfl⟩
        simp only [go_sem, Nat.reduceEqDiff, Nat.reduceAdd, Nat.reduceSub, Nat.reduceLT, Nat.reduceMul, Nat.reduceBEq, Nat.reduceLeDiff, ↓reduceIte, Int.reduceToNat, Nat.reduceGT, Int.reduceLE, Int.reduceLT, Int.reduceGE, Int.reduceGT, Int.reduceEq, Int.reduceNe, reduceCtorEq]
        exact ret_same ⟨rfl, rfl⟩
      refine brK_mk (fun b4 => ?_) (fun b4 => ?_) <;> simp only [go_sem, Nat.reduceEqDiff, Nat.reduceAdd, Nat.reduceSub, Nat.reduceLT, Nat.reduceMul, Nat.reduceBEq, Nat.reduceLeDiff, ↓reduceIte, Int.reduceToNat, Nat.reduceGT, Int.reduceLE, Int.reduceLT, Int.reduceGE, Int.reduceGT, Int.reduceEq, Int.reduceNe, reduceCtorEq, b4]
      · refine callX_by (aw _ hg) ?_
        rintro r hp9 ⟨rfl, rfl⟩
        simp only [go_sem, Nat.reduceEqDiff, Nat.reduceAdd, Nat.reduceSub, Nat.reduceLT, Nat.reduceMul, Nat.reduceBEq, Nat.reduceLeDiff, ↓reduceIte, Int.reduceToNat, Nat.reduceGT, Int.reduceLE, Int.reduceLT, Int.reduceGE, Int.reduceGT, Int.reduceEq, Int.reduceNe, reduceCtorEq]
        exact ret_same ⟨rfl, rfl⟩
      have hV : V.length ≤ 99 := by have := of_decide_eq_false b3; omega
      have hL : L.length ≤ 99 := by have := of_decide_eq_false b4; omega
      refine aw_cut 172 (fun x : Value × Value × ProgG × TermG => [(1, .lst 1 h1 (V.map fun s => .v (.string (bs s)))), (2, .lst 1 h2 (L.map fun s => .v (.string (bs s)))), (4, .ref q1 [.lst 3 p.hd (p.ds.map DeclG.av), .lst 9 p.hf (p.fs.map FunG.av)]), (7, .ref q2 [.v (.int .i64 t.op), .v (.int .i64 t.n), .v (.string (bs t.name)), .v (.int .i64 t.ty), .lst 6 t.ha (t.args.map TermG.av), .lst 7 t.hc (t.cls.map ClauseG.av)]), (9, .ref x.1 [.lst 3 x.2.2.1.hd (x.2.2.1.ds.map DeclG.av), .lst 9 x.2.2.1.hf (x.2.2.1.fs.map FunG.av)]), (10, .ref x.2.1 [.v (.int .i64 x.2.2.2.op), .v (.int .i64 x.2.2.2.n), .v (.string (bs x.2.2.2.name)), .v (.int .i64 x.2.2.2.ty), .lst 6 x.2.2.2.ha (x.2.2.2.args.map TermG.av), .lst 7 x.2.2.2.hc (x.2.2.2.cls.map ClauseG.av)])])
        (fun _ => hp2) (fun x => SameP p x.2.2.1 ∧ bareT x.2.2.2 = bareT t) (awp_sound (mu := [78, 87, 107]) _ _ _ ?_) ?_
      · simp only [go_sem, Nat.reduceEqDiff, Nat.reduceAdd, Nat.reduceSub, Nat.reduceLT, Nat.reduceMul, Nat.reduceBEq, Nat.reduceLeDiff, ↓reduceIte, Int.reduceToNat, Nat.reduceGT, Int.reduceLE, Int.reduceLT, Int.reduceGE, Int.reduceGT, Int.reduceEq, Int.reduceNe, reduceCtorEq]
        refine draw_by (mu := [78, 87, 107]) (fun _ => True) (.take 0 (.take 2 (.br 1 (.br 3 (.br 4 (.br 5 (.br 6 (.br 7 (.done) (.stop)) (.stop)) (.stop)) (.br 5 (.br 4 (.br 6 (.br 7 (.done) (.stop)) (.stop)) (.stop)) (.stop))) (.br 4 (.br 3 (.br 5 (.br 6 (.br 7 (.done) (.stop)) (.stop)) (.stop)) (.br 5 (.br 3 (.br 6 (.br 7 (.done) (.stop)) (.stop)) (.stop)) (.stop))) (.br 5 (.br 3 (.br 4 (.br 6 (.br 7 (.done) (.stop)) (.stop)) (.stop)) (.br 4 (.br 3 (.br 6 (.br 7 (.done) (.stop)) (.stop)) (.stop)) (.stop))) (.stop)))) (.br 4 (.br 1 (.br 3 (.br 5 (.br 6 (.br 7 (.done) (.stop)) (.stop)) (.stop)) (.br 5 (.br 3 (.br 6 (.br 7 (.done) (.stop)) (.stop)) (.stop)) (.stop))) (.br 5 (.br 1 (.br 3 (.br 6 (.br 7 (.done) (.stop)) (.stop)) (.stop)) (.stop)) (.stop))) (.br 5 (.br 1 (.br 3 (.br 4 (.br 6 (.br 7 (.done) (.stop)) (.stop)) (.stop)) (.br 4 (.br 3 (.br 6 (.br 7 (.done) (.stop)) (.stop)) (.stop)) (.stop))) (.br 4 (.br 1 (.br 3 (.br 6 (.br 7 (.done) (.stop)) (.stop)) (.stop)) (.stop)) (.stop))) (.stop)))))) (by decide +kernel) trivial (by decide +kernel) (by decide +kernel) ?_
        simp only [go_sem, Nat.reduceEqDiff, Nat.reduceAdd, Nat.reduceSub, Nat.reduceLT, Nat.reduceMul, Nat.reduceBEq, Nat.reduceLeDiff, ↓reduceIte, Int.reduceToNat, Nat.reduceGT, Int.reduceLE, Int.reduceLT, Int.reduceGE, Int.reduceGT, Int.reduceEq, Int.reduceNe, reduceCtorEq]
        have cp := fun hp => copyProg_calls p hsm hfw.1 hfw.2 hp
        have ct := fun hp => copyT_calls (nodesT t) t (Nat.le_refl _) (by omega) hst hp
        simp only [ProgG.av, ProgG.cs, declsAV, funsAV, TermG.av, TermG.cs_eq] at cp ct
        repeat' first
          | with_reducible exact trivial
          | (refine callX_by (cp _) ?_; rintro r hp7 ⟨⟨q, rfl, hq⟩, e7⟩; subst hp7; try simp only [go_sem, Nat.reduceEqDiff, Nat.reduceAdd, Nat.reduceSub, Nat.reduceLT, Nat.reduceMul, Nat.reduceBEq, Nat.reduceLeDiff, ↓reduceIte, Int.reduceToNat, Nat.reduceGT, Int.reduceLE, Int.reduceLT, Int.reduceGE, Int.reduceGT, Int.reduceEq, Int.reduceNe, reduceCtorEq])
          | (refine callX_by (ct _) ?_; rintro r hp7 ⟨⟨t', rfl, ht'⟩, e7⟩; subst hp7; try simp only [go_sem, Nat.reduceEqDiff, Nat.reduceAdd, Nat.reduceSub, Nat.reduceLT, Nat.reduceMul, Nat.reduceBEq, Nat.reduceLeDiff, ↓reduceIte, Int.reduceToNat, Nat.reduceGT, Int.reduceLE, Int.reduceLT, Int.reduceGE, Int.reduceGT, Int.reduceEq, Int.reduceNe, reduceCtorEq])
          | (simp only [go_sem, Nat.reduceEqDiff, Nat.reduceAdd, Nat.reduceSub, Nat.reduceLT, Nat.reduceMul, Nat.reduceBEq, Nat.reduceLeDiff, ↓reduceIte, Int.reduceToNat, Nat.reduceGT, Int.reduceLE, Int.reduceLT, Int.reduceGE, Int.reduceGT, Int.reduceEq, Int.reduceNe, reduceCtorEq, if_neg hne, if_neg hne'])
          | (intro c hc
             have hne : c ≠ b := by rintro rfl; have := hc.1; simp [Hp.setBlk] at this
             have hne' := Ne.symm hne
             have hdc := fun T cs => Hp.del_set _ _ T cs hc.1
             try simp only [hdc]
             try simp only [go_sem, Nat.reduceEqDiff, Nat.reduceAdd, Nat.reduceSub, Nat.reduceLT, Nat.reduceMul, Nat.reduceBEq, Nat.reduceLeDiff, ↓reduceIte, Int.reduceToNat, Nat.reduceGT, Int.reduceLE, Int.reduceLT, Int.reduceGE, Int.reduceGT, Int.reduceEq, Int.reduceNe, reduceCtorEq, hdb, hdc, if_neg hne, if_neg hne'])
          | (intro b hb; have hdb := fun T cs => Hp.del_set _ _ T cs hb.1; try simp only [hdb]; try simp only [go_sem, Nat.reduceEqDiff, Nat.reduceAdd, Nat.reduceSub, Nat.reduceLT, Nat.reduceMul, Nat.reduceBEq, Nat.reduceLeDiff, ↓reduceIte, Int.reduceToNat, Nat.reduceGT, Int.reduceLE, Int.reduceLT, Int.reduceGE, Int.reduceGT, Int.reduceEq, Int.reduceNe, reduceCtorEq, hdb])
          | (with_reducible refine And.intro ?_ ?_)
        all_goals
          have hle : ∀ (x : Hp), (∀ j, j ≠ b → j ≠ c → x.blk j = hp2.blk j) → x.mp = hp2.mp → x.sp = hp2.sp → x.gl = hp2.gl → hp2.le x := fun x e1 e2 e3 e4 => ⟨fun j u hj => by
            have h1 : j ≠ b := by rintro rfl; first | (rw [hb.1] at hj; cases hj) | (have := hb.1; simp [Hp.setBlk, hne, hne'] at this; rw [this] at hj; cases hj)
            have h2 : j ≠ c := by rintro rfl; have := hc.1; simp [Hp.setBlk, hne, hne'] at this; rw [this] at hj; cases hj
            rw [e1 j h1 h2]; exact hj, fun j u hj => by rw [e2]; exact hj, by rw [e3]; exact List.Sublist.refl _, fun g hg => by rw [e4]; exact hg⟩
          first
            | (refine ⟨(.pointer (some ⟨b, 0, none⟩), .pointer (some ⟨c, 0, none⟩), q, t'), ⟨hq, ht'⟩, le_mkSl rfl (hle _ (fun j h1 h2 => ?_) rfl rfl rfl) ?_⟩
               · simp [St.setHp, go_sem, Hp.setBlk, Hp.delBlk, h1, h2]
               · simp [go_sem]; done)
            | (refine ⟨(.pointer (some ⟨c, 0, none⟩), .pointer (some ⟨b, 0, none⟩), q, t'), ⟨hq, ht'⟩, le_mkSl rfl (hle _ (fun j h1 h2 => ?_) rfl rfl rfl) ?_⟩
               · simp [St.setHp, go_sem, Hp.setBlk, Hp.delBlk, h1, h2]
               · simp [go_sem]; done)
      · rintro ⟨v9, v10, q, t'⟩ ⟨hq, ht'⟩
        simp only at hq ht'
        refine awp_sound (mu := [78, 87, 107]) _ _ _ ?_
        simp only [go_sem, Nat.reduceEqDiff, Nat.reduceAdd, Nat.reduceSub, Nat.reduceLT, Nat.reduceMul, Nat.reduceBEq, Nat.reduceLeDiff, ↓reduceIte, Int.reduceToNat, Nat.reduceGT, Int.reduceLE, Int.reduceLT, Int.reduceGE, Int.reduceGT, Int.reduceEq, Int.reduceNe, reduceCtorEq]
        have wn : ∀ (h : Value) (l : List Bytes) (hp : Hp), l.length ≤ 99 → ACalls Tryz.prog 32 [.lst 1 h (l.map fun s => .v (.string (bs s))), .v (.slice none 0 0)] hp (fun r hp' => ∃ h', r = .lst 1 h' (l.map fun s => .v (.string (bs s))) ∧ hp' = hp) := fun h l hp hl => by
          have q := rwith_calls h (.slice none 0 0) l [] (by simp; omega) hp
          simp only [List.append_nil] at q
          exact acalls_cast (args := [strsAV h l, strsAV (.slice none 0 0) []]) rfl (fun m ho => ⟨ho.1, (Cast.nil 1).2 m trivial, trivial⟩) q
        refine callX_by (wn h1 V _ hV) ?_
        rintro r hp3 ⟨hv, rfl, rfl⟩
        simp only [go_sem, Nat.reduceEqDiff, Nat.reduceAdd, Nat.reduceSub, Nat.reduceLT, Nat.reduceMul, Nat.reduceBEq, Nat.reduceLeDiff, ↓reduceIte, Int.reduceToNat, Nat.reduceGT, Int.reduceLE, Int.reduceLT, Int.reduceGE, Int.reduceGT, Int.reduceEq, Int.reduceNe, reduceCtorEq]
        refine callX_by (wn h2 L _ hL) ?_
        rintro r hp4 ⟨hl, rfl, rfl⟩
        simp only [go_sem, Nat.reduceEqDiff, Nat.reduceAdd, Nat.reduceSub, Nat.reduceLT, Nat.reduceMul, Nat.reduceBEq, Nat.reduceLeDiff, ↓reduceIte, Int.reduceToNat, Nat.reduceGT, Int.reduceLE, Int.reduceLT, Int.reduceGE, Int.reduceGT, Int.reduceEq, Int.reduceNe, reduceCtorEq]
        clear wn
        have cc := fun hp (hg : GOk hp) => checkP_calls p hpf hp hg
        have cy := fun hp (hg : GOk hp) => term_calls p hpf h1 h2 V L t hp hg
        have cn := fun hp (hg : GOk hp) => nodesP_calls p hpf hp hg
        have cf := fun hp => freeOwn_calls t (by omega) hsh hp
        have cf2 := fun hp => freeT_calls t (by omega) hsh hp
        have cr := fun hp => rfreeT_calls t (by omega) hm hp
        have cl := fun hp (hg : GOk hp) => callsOwn_calls p hpf hp hg
        have cs := fun hp (hg : GOk hp) => callsSeen_calls p hpf hp hg
        have c1 := fun hp => sameProg_calls q p ⟨hq.ds.symm, hq.fs.symm⟩ (by have := congrArg List.length hq.fs; simp at this; omega) (own_copy hq hfw.2) hp
        have c2 := fun hp => sameT_calls (nodesT t') t' t (Nat.le_refl _) (by rw [own_bare ht']; omega) ht' hp
        rw [← freeS_eq] at cr
        have hln : (freeS t).1.length ≤ nodesT t ∧ (freeS t).2.length ≤ nodesT t := by have h := free_lens t; rw [freeS, sortS_len, sortS_len]; exact h
        simp only [ProgG.av, ProgG.cs, declsAV, funsAV, TermG.av, TermG.cs_eq, strsAV] at cc cy cn cf cf2 cr cl cs c1 c2
        refine callX_by (cc _ hg) ?_
        rintro r hp3 ⟨rfl, e3⟩
        subst hp3
        simp only [go_sem, Nat.reduceEqDiff, Nat.reduceAdd, Nat.reduceSub, Nat.reduceLT, Nat.reduceMul, Nat.reduceBEq, Nat.reduceLeDiff, ↓reduceIte, Int.reduceToNat, Nat.reduceGT, Int.reduceLE, Int.reduceLT, Int.reduceGE, Int.reduceGT, Int.reduceEq, Int.reduceNe, reduceCtorEq]
        refine callX_by (cy _ hg) ?_
        rintro r hp3 ⟨rfl, e3⟩
        subst hp3
        simp only [go_sem, Nat.reduceEqDiff, Nat.reduceAdd, Nat.reduceSub, Nat.reduceLT, Nat.reduceMul, Nat.reduceBEq, Nat.reduceLeDiff, ↓reduceIte, Int.reduceToNat, Nat.reduceGT, Int.reduceLE, Int.reduceLT, Int.reduceGE, Int.reduceGT, Int.reduceEq, Int.reduceNe, reduceCtorEq]
        refine callX_by (cn _ hg) ?_
        rintro r hp3 ⟨rfl, e3⟩
        subst hp3
        simp only [go_sem, Nat.reduceEqDiff, Nat.reduceAdd, Nat.reduceSub, Nat.reduceLT, Nat.reduceMul, Nat.reduceBEq, Nat.reduceLeDiff, ↓reduceIte, Int.reduceToNat, Nat.reduceGT, Int.reduceLE, Int.reduceLT, Int.reduceGE, Int.reduceGT, Int.reduceEq, Int.reduceNe, reduceCtorEq]
        refine callX_by (cf _) ?_
        rintro r hpA ⟨hs, ⟨a1, c1', a2, c2', rfl, rfl⟩, hA⟩
        simp only [go_sem, Nat.reduceEqDiff, Nat.reduceAdd, Nat.reduceSub, Nat.reduceLT, Nat.reduceMul, Nat.reduceBEq, Nat.reduceLeDiff, ↓reduceIte, Int.reduceToNat, Nat.reduceGT, Int.reduceLE, Int.reduceLT, Int.reduceGE, Int.reduceGT, Int.reduceEq, Int.reduceNe, reduceCtorEq]
        refine aw_loopX 172 (fun x : Nat × Hp => [(1, .lst 1 h1 (V.map fun s => .v (.string (bs s)))), (2, .lst 1 h2 (L.map fun s => .v (.string (bs s)))), (4, .ref q1 [.lst 3 p.hd (p.ds.map DeclG.av), .lst 9 p.hf (p.fs.map FunG.av)]), (7, .ref q2 [.v (.int .i64 t.op), .v (.int .i64 t.n), .v (.string (bs t.name)), .v (.int .i64 t.ty), .lst 6 t.ha (t.args.map TermG.av), .lst 7 t.hc (t.cls.map ClauseG.av)]), (9, .ref v9 [.lst 3 q.hd (q.ds.map DeclG.av), .lst 9 q.hf (q.fs.map FunG.av)]), (10, .ref v10 [.v (.int .i64 t'.op), .v (.int .i64 t'.n), .v (.string (bs t'.name)), .v (.int .i64 t'.ty), .lst 6 t'.ha (t'.args.map TermG.av), .lst 7 t'.hc (t'.cls.map ClauseG.av)]), (11, .lst 1 hv (V.map fun s => .v (.string (bs s)))), (12, .lst 1 hl (L.map fun s => .v (.string (bs s)))), (13, .v (.slice a1 (freeS t).1.length c1')), (14, .v (.slice a2 (freeS t).2.length c2')), (71, .v (.slice a1 (freeS t).1.length c1')), (72, .v (.int .i64 (freeS t).1.length)), (73, .v (.int .i64 x.1))])
          (fun x => x.2) (fun x => x.1 ≤ (freeS t).1.length ∧ AllRows 9 hp4 [.slice a1 (freeS t).1.length c1', .slice a2 (freeS t).2.length c2'] x.2) (fun x => (freeS t).1.length - x.1) (0, hpA) ⟨Nat.zero_le _, hA⟩ (le_mkSl rfl (Hp.le_refl _) (by simp [go_sem])) ?_
        rintro ⟨k, hpK⟩ ⟨hk, hK⟩
        simp only at hk hK
        refine awp_sound (mu := [78, 87, 107]) _ _ _ ?_
        simp only [go_sem, Nat.reduceEqDiff, Nat.reduceAdd, Nat.reduceSub, Nat.reduceLT, Nat.reduceMul, Nat.reduceBEq, Nat.reduceLeDiff, ↓reduceIte, Int.reduceToNat, Nat.reduceGT, Int.reduceLE, Int.reduceLT, Int.reduceGE, Int.reduceGT, Int.reduceEq, Int.reduceNe, reduceCtorEq]
        refine brK_mk (fun b5 => ?_) (fun b5 => ?_) <;> simp only [go_sem, Nat.reduceEqDiff, Nat.reduceAdd, Nat.reduceSub, Nat.reduceLT, Nat.reduceMul, Nat.reduceBEq, Nat.reduceLeDiff, ↓reduceIte, Int.reduceToNat, Nat.reduceGT, Int.reduceLE, Int.reduceLT, Int.reduceGE, Int.reduceGT, Int.reduceEq, Int.reduceNe, reduceCtorEq, b5]
        · have hk' : k < (freeS t).1.length := by simpa using b5
          obtain ⟨b, cs', rfl, g1, g2, g3⟩ := row_here hK (a := a1) (c := c1') List.mem_cons_self hk'
          have hwk : IntKind.i64.wrap ((k : Int) + 1) = ((k + 1 : Nat) : Int) := IntWalk.i64_in _ (by omega)
          simp only [go_sem, Nat.reduceEqDiff, Nat.reduceAdd, Nat.reduceSub, Nat.reduceLT, Nat.reduceMul, Nat.reduceBEq, Nat.reduceLeDiff, ↓reduceIte, Int.reduceToNat, Nat.reduceGT, Int.reduceLE, Int.reduceLT, Int.reduceGE, Int.reduceGT, Int.reduceEq, Int.reduceNe, reduceCtorEq]
          refine ⟨by omega, ?_⟩
          simp only [go_sem, Nat.reduceEqDiff, Nat.reduceAdd, Nat.reduceSub, Nat.reduceLT, Nat.reduceMul, Nat.reduceBEq, Nat.reduceLeDiff, ↓reduceIte, Int.reduceToNat, Nat.reduceGT, Int.reduceLE, Int.reduceLT, Int.reduceGE, Int.reduceGT, Int.reduceEq, Int.reduceNe, reduceCtorEq, g2, hwk]
          exact ⟨by omega, (k + 1, hpK.setBlk b 9 (List.take k cs' ++ [AV.v (.string (bs [99, 104, 97, 110, 103, 101, 100]))] ++ List.drop (k + 1) cs')), by simp only; omega, ⟨by simp only; omega, hK.set g1 g2 (splice_len _ _ _ (by omega))⟩, le_mkSl rfl (Hp.le_refl _) (by simp [go_sem, hwk])⟩
        have e1 : k = (freeS t).1.length := by simp at b5; omega
        subst e1
        refine aw_loopX 172 (fun x : Nat × Hp => [(1, .lst 1 h1 (V.map fun s => .v (.string (bs s)))), (2, .lst 1 h2 (L.map fun s => .v (.string (bs s)))), (4, .ref q1 [.lst 3 p.hd (p.ds.map DeclG.av), .lst 9 p.hf (p.fs.map FunG.av)]), (7, .ref q2 [.v (.int .i64 t.op), .v (.int .i64 t.n), .v (.string (bs t.name)), .v (.int .i64 t.ty), .lst 6 t.ha (t.args.map TermG.av), .lst 7 t.hc (t.cls.map ClauseG.av)]), (9, .ref v9 [.lst 3 q.hd (q.ds.map DeclG.av), .lst 9 q.hf (q.fs.map FunG.av)]), (10, .ref v10 [.v (.int .i64 t'.op), .v (.int .i64 t'.n), .v (.string (bs t'.name)), .v (.int .i64 t'.ty), .lst 6 t'.ha (t'.args.map TermG.av), .lst 7 t'.hc (t'.cls.map ClauseG.av)]), (11, .lst 1 hv (V.map fun s => .v (.string (bs s)))), (12, .lst 1 hl (L.map fun s => .v (.string (bs s)))), (13, .v (.slice a1 (freeS t).1.length c1')), (14, .v (.slice a2 (freeS t).2.length c2')), (80, .v (.slice a2 (freeS t).2.length c2')), (81, .v (.int .i64 (freeS t).2.length)), (82, .v (.int .i64 x.1))])
          (fun x => x.2) (fun x => x.1 ≤ (freeS t).2.length ∧ AllRows 9 hp4 [.slice a1 (freeS t).1.length c1', .slice a2 (freeS t).2.length c2'] x.2) (fun x => (freeS t).2.length - x.1) (0, hpK) ⟨Nat.zero_le _, hK⟩ (le_mkSl rfl (Hp.le_refl _) (by simp [go_sem])) ?_
        rintro ⟨k, hpL⟩ ⟨hk, hL⟩
        simp only at hk hL
        refine awp_sound (mu := [78, 87, 107]) _ _ _ ?_
        simp only [go_sem, Nat.reduceEqDiff, Nat.reduceAdd, Nat.reduceSub, Nat.reduceLT, Nat.reduceMul, Nat.reduceBEq, Nat.reduceLeDiff, ↓reduceIte, Int.reduceToNat, Nat.reduceGT, Int.reduceLE, Int.reduceLT, Int.reduceGE, Int.reduceGT, Int.reduceEq, Int.reduceNe, reduceCtorEq]
        refine brK_mk (fun b6 => ?_) (fun b6 => ?_) <;> simp only [go_sem, Nat.reduceEqDiff, Nat.reduceAdd, Nat.reduceSub, Nat.reduceLT, Nat.reduceMul, Nat.reduceBEq, Nat.reduceLeDiff, ↓reduceIte, Int.reduceToNat, Nat.reduceGT, Int.reduceLE, Int.reduceLT, Int.reduceGE, Int.reduceGT, Int.reduceEq, Int.reduceNe, reduceCtorEq, b6]
        · have hk' : k < (freeS t).2.length := by simpa using b6
          obtain ⟨b, cs', rfl, g1, g2, g3⟩ := row_here hL (a := a2) (c := c2') (List.mem_cons_of_mem _ List.mem_cons_self) hk'
          have hwk : IntKind.i64.wrap ((k : Int) + 1) = ((k + 1 : Nat) : Int) := IntWalk.i64_in _ (by omega)
          simp only [go_sem, Nat.reduceEqDiff, Nat.reduceAdd, Nat.reduceSub, Nat.reduceLT, Nat.reduceMul, Nat.reduceBEq, Nat.reduceLeDiff, ↓reduceIte, Int.reduceToNat, Nat.reduceGT, Int.reduceLE, Int.reduceLT, Int.reduceGE, Int.reduceGT, Int.reduceEq, Int.reduceNe, reduceCtorEq]
          refine ⟨by omega, ?_⟩
          simp only [go_sem, Nat.reduceEqDiff, Nat.reduceAdd, Nat.reduceSub, Nat.reduceLT, Nat.reduceMul, Nat.reduceBEq, Nat.reduceLeDiff, ↓reduceIte, Int.reduceToNat, Nat.reduceGT, Int.reduceLE, Int.reduceLT, Int.reduceGE, Int.reduceGT, Int.reduceEq, Int.reduceNe, reduceCtorEq, g2, hwk]
          exact ⟨by omega, (k + 1, hpL.setBlk b 9 (List.take k cs' ++ [AV.v (.string (bs [99, 104, 97, 110, 103, 101, 100]))] ++ List.drop (k + 1) cs')), by simp only; omega, ⟨by simp only; omega, hL.set g1 g2 (splice_len _ _ _ (by omega))⟩, le_mkSl rfl (Hp.le_refl _) (by simp [go_sem, hwk])⟩
        have gL := le_gok hL.le hg
        refine callX_by (cl _ gL) ?_
        rintro r hpC ⟨hs, ⟨hs12, hsr, h5, c5, rfl⟩, hC⟩
        simp only [go_sem, Nat.reduceEqDiff, Nat.reduceAdd, Nat.reduceSub, Nat.reduceLT, Nat.reduceMul, Nat.reduceBEq, Nat.reduceLeDiff, ↓reduceIte, Int.reduceToNat, Nat.reduceGT, Int.reduceLE, Int.reduceLT, Int.reduceGE, Int.reduceGT, Int.reduceEq, Int.reduceNe, reduceCtorEq, List.length_map]
        refine aw_loopX 172 (fun x : Nat × Hp => [(1, .lst 1 h1 (V.map fun s => .v (.string (bs s)))), (2, .lst 1 h2 (L.map fun s => .v (.string (bs s)))), (4, .ref q1 [.lst 3 p.hd (p.ds.map DeclG.av), .lst 9 p.hf (p.fs.map FunG.av)]), (7, .ref q2 [.v (.int .i64 t.op), .v (.int .i64 t.n), .v (.string (bs t.name)), .v (.int .i64 t.ty), .lst 6 t.ha (t.args.map TermG.av), .lst 7 t.hc (t.cls.map ClauseG.av)]), (9, .ref v9 [.lst 3 q.hd (q.ds.map DeclG.av), .lst 9 q.hf (q.fs.map FunG.av)]), (10, .ref v10 [.v (.int .i64 t'.op), .v (.int .i64 t'.n), .v (.string (bs t'.name)), .v (.int .i64 t'.ty), .lst 6 t'.ha (t'.args.map TermG.av), .lst 7 t'.hc (t'.cls.map ClauseG.av)]), (11, .lst 1 hv (V.map fun s => .v (.string (bs s)))), (12, .lst 1 hl (L.map fun s => .v (.string (bs s)))), (94, .lst 1 h5 (hs.map AV.v)), (95, .v (.int .i64 hs.length)), (96, .v (.int .i64 x.1))])
          (fun x => x.2) (fun x => x.1 ≤ hs.length ∧ AllRows 3 hpL hs x.2) (fun x => hs.length - x.1) (0, hpC) ⟨Nat.zero_le _, hC⟩ (le_mkSl rfl (Hp.le_refl _) (by simp [go_sem])) ?_
        rintro ⟨i, hpI⟩ ⟨hi, hI⟩
        simp only at hi hI
        refine awp_sound (mu := [78, 87, 107]) _ _ _ ?_
        simp only [go_sem, Nat.reduceEqDiff, Nat.reduceAdd, Nat.reduceSub, Nat.reduceLT, Nat.reduceMul, Nat.reduceBEq, Nat.reduceLeDiff, ↓reduceIte, Int.reduceToNat, Nat.reduceGT, Int.reduceLE, Int.reduceLT, Int.reduceGE, Int.reduceGT, Int.reduceEq, Int.reduceNe, reduceCtorEq]
        refine brK_mk (fun b7 => ?_) (fun b7 => ?_) <;> simp only [go_sem, Nat.reduceEqDiff, Nat.reduceAdd, Nat.reduceSub, Nat.reduceLT, Nat.reduceMul, Nat.reduceBEq, Nat.reduceLeDiff, ↓reduceIte, Int.reduceToNat, Nat.reduceGT, Int.reduceLE, Int.reduceLT, Int.reduceGE, Int.reduceGT, Int.reduceEq, Int.reduceNe, reduceCtorEq, b7]
        · have hi' : i < hs.length := by simpa using b7
          obtain ⟨v, hv7⟩ := someAt hs i hi'
          obtain ⟨a, n, c, rfl, hn⟩ := hsr i v hv7
          have hwi : IntKind.i64.wrap ((i : Int) + 1) = ((i + 1 : Nat) : Int) := IntWalk.i64_in _ (by omega)
          simp only [go_sem, Nat.reduceEqDiff, Nat.reduceAdd, Nat.reduceSub, Nat.reduceLT, Nat.reduceMul, Nat.reduceBEq, Nat.reduceLeDiff, ↓reduceIte, Int.reduceToNat, Nat.reduceGT, Int.reduceLE, Int.reduceLT, Int.reduceGE, Int.reduceGT, Int.reduceEq, Int.reduceNe, reduceCtorEq, mapAt AV.v hs i _ hv7]
          refine aw_loopX 172 (fun x : Nat × Hp => [(1, .lst 1 h1 (V.map fun s => .v (.string (bs s)))), (2, .lst 1 h2 (L.map fun s => .v (.string (bs s)))), (4, .ref q1 [.lst 3 p.hd (p.ds.map DeclG.av), .lst 9 p.hf (p.fs.map FunG.av)]), (7, .ref q2 [.v (.int .i64 t.op), .v (.int .i64 t.n), .v (.string (bs t.name)), .v (.int .i64 t.ty), .lst 6 t.ha (t.args.map TermG.av), .lst 7 t.hc (t.cls.map ClauseG.av)]), (9, .ref v9 [.lst 3 q.hd (q.ds.map DeclG.av), .lst 9 q.hf (q.fs.map FunG.av)]), (10, .ref v10 [.v (.int .i64 t'.op), .v (.int .i64 t'.n), .v (.string (bs t'.name)), .v (.int .i64 t'.ty), .lst 6 t'.ha (t'.args.map TermG.av), .lst 7 t'.hc (t'.cls.map ClauseG.av)]), (11, .lst 1 hv (V.map fun s => .v (.string (bs s)))), (12, .lst 1 hl (L.map fun s => .v (.string (bs s)))), (94, .lst 1 h5 (hs.map AV.v)), (95, .v (.int .i64 hs.length)), (96, .v (.int .i64 i)), (20, .v (.slice a n c)), (100, .v (.slice a n c)), (101, .v (.int .i64 n)), (102, .v (.int .i64 x.1))])
            (fun x => x.2) (fun x => x.1 ≤ n ∧ AllRows 3 hpL hs x.2) (fun x => n - x.1) (0, hpI) ⟨Nat.zero_le _, hI⟩ (le_mkSl rfl (Hp.le_refl _) (by simp [go_sem])) ?_
          rintro ⟨k, hpJ⟩ ⟨hk, hJ⟩
          simp only at hk hJ
          refine awp_sound (mu := [78, 87, 107]) _ _ _ ?_
          simp only [go_sem, Nat.reduceEqDiff, Nat.reduceAdd, Nat.reduceSub, Nat.reduceLT, Nat.reduceMul, Nat.reduceBEq, Nat.reduceLeDiff, ↓reduceIte, Int.reduceToNat, Nat.reduceGT, Int.reduceLE, Int.reduceLT, Int.reduceGE, Int.reduceGT, Int.reduceEq, Int.reduceNe, reduceCtorEq]
          refine brK_mk (fun b8 => ?_) (fun b8 => ?_) <;> simp only [go_sem, Nat.reduceEqDiff, Nat.reduceAdd, Nat.reduceSub, Nat.reduceLT, Nat.reduceMul, Nat.reduceBEq, Nat.reduceLeDiff, ↓reduceIte, Int.reduceToNat, Nat.reduceGT, Int.reduceLE, Int.reduceLT, Int.reduceGE, Int.reduceGT, Int.reduceEq, Int.reduceNe, reduceCtorEq, b8]
          · have hk' : k < n := by simpa using b8
            obtain ⟨b, cs', rfl, g1, g2, g3⟩ := row_here hJ (a := a) (c := c) (List.mem_of_getElem? hv7) hk'
            have hwk : IntKind.i64.wrap ((k : Int) + 1) = ((k + 1 : Nat) : Int) := IntWalk.i64_in _ (by omega)
            simp only [go_sem, Nat.reduceEqDiff, Nat.reduceAdd, Nat.reduceSub, Nat.reduceLT, Nat.reduceMul, Nat.reduceBEq, Nat.reduceLeDiff, ↓reduceIte, Int.reduceToNat, Nat.reduceGT, Int.reduceLE, Int.reduceLT, Int.reduceGE, Int.reduceGT, Int.reduceEq, Int.reduceNe, reduceCtorEq]
            refine ⟨by omega, ?_⟩
            simp only [go_sem, Nat.reduceEqDiff, Nat.reduceAdd, Nat.reduceSub, Nat.reduceLT, Nat.reduceMul, Nat.reduceBEq, Nat.reduceLeDiff, ↓reduceIte, Int.reduceToNat, Nat.reduceGT, Int.reduceLE, Int.reduceLT, Int.reduceGE, Int.reduceGT, Int.reduceEq, Int.reduceNe, reduceCtorEq, g2, hwk]
            exact ⟨by omega, (k + 1, hpJ.setBlk b 3 (List.take k cs' ++ [AV.v (.int .i64 (-1))] ++ List.drop (k + 1) cs')), by simp only; omega, ⟨by simp only; omega, hJ.set g1 g2 (splice_len _ _ _ (by omega))⟩, le_mkSl rfl (Hp.le_refl _) (by simp [go_sem, hwk])⟩
          simp only [go_sem, Nat.reduceEqDiff, Nat.reduceAdd, Nat.reduceSub, Nat.reduceLT, Nat.reduceMul, Nat.reduceBEq, Nat.reduceLeDiff, ↓reduceIte, Int.reduceToNat, Nat.reduceGT, Int.reduceLE, Int.reduceLT, Int.reduceGE, Int.reduceGT, Int.reduceEq, Int.reduceNe, reduceCtorEq, hwi]
          exact ⟨(i + 1, hpJ), by simp only; omega, ⟨by simp only; omega, hJ⟩, le_mkSl rfl (Hp.le_refl _) (by simp [go_sem, hwi])⟩
        have gI := le_gok hI.le gL
        refine callX_by (cs _ gI) ?_
        rintro r hpS ⟨⟨h6, hs6, ls, c6, hl6, hn6, hp6, rfl⟩, e3⟩
        subst hpS
        simp only [go_sem, Nat.reduceEqDiff, Nat.reduceAdd, Nat.reduceSub, Nat.reduceLT, Nat.reduceMul, Nat.reduceBEq, Nat.reduceLeDiff, ↓reduceIte, Int.reduceToNat, Nat.reduceGT, Int.reduceLE, Int.reduceLT, Int.reduceGE, Int.reduceGT, Int.reduceEq, Int.reduceNe, reduceCtorEq, rowsAV, intsAV, List.length_map, List.length_zip, hl6, Nat.min_self]
        refine aw_loopX 172 (fun k : Nat => [(1, .lst 1 h1 (V.map fun s => .v (.string (bs s)))), (2, .lst 1 h2 (L.map fun s => .v (.string (bs s)))), (4, .ref q1 [.lst 3 p.hd (p.ds.map DeclG.av), .lst 9 p.hf (p.fs.map FunG.av)]), (7, .ref q2 [.v (.int .i64 t.op), .v (.int .i64 t.n), .v (.string (bs t.name)), .v (.int .i64 t.ty), .lst 6 t.ha (t.args.map TermG.av), .lst 7 t.hc (t.cls.map ClauseG.av)]), (9, .ref v9 [.lst 3 q.hd (q.ds.map DeclG.av), .lst 9 q.hf (q.fs.map FunG.av)]), (10, .ref v10 [.v (.int .i64 t'.op), .v (.int .i64 t'.n), .v (.string (bs t'.name)), .v (.int .i64 t'.ty), .lst 6 t'.ha (t'.args.map TermG.av), .lst 7 t'.hc (t'.cls.map ClauseG.av)]), (11, .lst 1 hv (V.map fun s => .v (.string (bs s)))), (12, .lst 1 hl (L.map fun s => .v (.string (bs s)))), (115, .lst 1 h6 ((hs6.zip ls).map fun x => .lst 1 x.1 (x.2.map iv))), (116, .v (.int .i64 ls.length)), (117, .v (.int .i64 k))])
          (fun _ => hpI) (fun k => k ≤ ls.length) (fun k => ls.length - k) 0 (Nat.zero_le _) (le_mkSl rfl (Hp.le_refl _) (by simp [go_sem])) ?_
        intro k hk
        refine awp_sound (mu := [78, 87, 107]) _ _ _ ?_
        simp only [go_sem, Nat.reduceEqDiff, Nat.reduceAdd, Nat.reduceSub, Nat.reduceLT, Nat.reduceMul, Nat.reduceBEq, Nat.reduceLeDiff, ↓reduceIte, Int.reduceToNat, Nat.reduceGT, Int.reduceLE, Int.reduceLT, Int.reduceGE, Int.reduceGT, Int.reduceEq, Int.reduceNe, reduceCtorEq]
        refine brK_mk (fun b9 => ?_) (fun b9 => ?_) <;> simp only [go_sem, Nat.reduceEqDiff, Nat.reduceAdd, Nat.reduceSub, Nat.reduceLT, Nat.reduceMul, Nat.reduceBEq, Nat.reduceLeDiff, ↓reduceIte, Int.reduceToNat, Nat.reduceGT, Int.reduceLE, Int.reduceLT, Int.reduceGE, Int.reduceGT, Int.reduceEq, Int.reduceNe, reduceCtorEq, b9]
        · have hk' : k < ls.length := by simpa using b9
          obtain ⟨⟨v, l⟩, hz⟩ := someAt (hs6.zip ls) k (by rw [List.length_zip]; omega)
          have hlm : l ∈ ls := (List.of_mem_zip (List.mem_of_getElem? hz)).2
          obtain ⟨hll, hl0⟩ := hp6 l hlm
          have hwk : IntKind.i64.wrap ((k : Int) + 1) = ((k + 1 : Nat) : Int) := IntWalk.i64_in _ (by omega)
          simp only [go_sem, Nat.reduceEqDiff, Nat.reduceAdd, Nat.reduceSub, Nat.reduceLT, Nat.reduceMul, Nat.reduceBEq, Nat.reduceLeDiff, ↓reduceIte, Int.reduceToNat, Nat.reduceGT, Int.reduceLE, Int.reduceLT, Int.reduceGE, Int.reduceGT, Int.reduceEq, Int.reduceNe, reduceCtorEq, mapAt (fun x : Value × List Int => AV.lst 1 x.1 (x.2.map iv)) _ k _ hz, List.length_map]
          refine aw_loopX 172 (fun j : Nat => [(1, .lst 1 h1 (V.map fun s => .v (.string (bs s)))), (2, .lst 1 h2 (L.map fun s => .v (.string (bs s)))), (4, .ref q1 [.lst 3 p.hd (p.ds.map DeclG.av), .lst 9 p.hf (p.fs.map FunG.av)]), (7, .ref q2 [.v (.int .i64 t.op), .v (.int .i64 t.n), .v (.string (bs t.name)), .v (.int .i64 t.ty), .lst 6 t.ha (t.args.map TermG.av), .lst 7 t.hc (t.cls.map ClauseG.av)]), (9, .ref v9 [.lst 3 q.hd (q.ds.map DeclG.av), .lst 9 q.hf (q.fs.map FunG.av)]), (10, .ref v10 [.v (.int .i64 t'.op), .v (.int .i64 t'.n), .v (.string (bs t'.name)), .v (.int .i64 t'.ty), .lst 6 t'.ha (t'.args.map TermG.av), .lst 7 t'.hc (t'.cls.map ClauseG.av)]), (11, .lst 1 hv (V.map fun s => .v (.string (bs s)))), (12, .lst 1 hl (L.map fun s => .v (.string (bs s)))), (115, .lst 1 h6 ((hs6.zip ls).map fun x => .lst 1 x.1 (x.2.map iv))), (116, .v (.int .i64 ls.length)), (117, .v (.int .i64 k)), (121, .lst 1 v (l.map iv)), (122, .v (.int .i64 l.length)), (123, .v (.int .i64 j))])
            (fun _ => hpI) (fun j => j ≤ l.length) (fun j => l.length - j) 0 (Nat.zero_le _) (le_mkSl rfl (Hp.le_refl _) (by simp [go_sem])) ?_
          intro j hj
          refine awp_sound (mu := [78, 87, 107]) _ _ _ ?_
          simp only [go_sem, Nat.reduceEqDiff, Nat.reduceAdd, Nat.reduceSub, Nat.reduceLT, Nat.reduceMul, Nat.reduceBEq, Nat.reduceLeDiff, ↓reduceIte, Int.reduceToNat, Nat.reduceGT, Int.reduceLE, Int.reduceLT, Int.reduceGE, Int.reduceGT, Int.reduceEq, Int.reduceNe, reduceCtorEq]
          refine brK_mk (fun b10 => ?_) (fun b10 => ?_) <;> simp only [go_sem, Nat.reduceEqDiff, Nat.reduceAdd, Nat.reduceSub, Nat.reduceLT, Nat.reduceMul, Nat.reduceBEq, Nat.reduceLeDiff, ↓reduceIte, Int.reduceToNat, Nat.reduceGT, Int.reduceLE, Int.reduceLT, Int.reduceGE, Int.reduceGT, Int.reduceEq, Int.reduceNe, reduceCtorEq, b10]
          · have hj' : j < l.length := by simpa using b10
            obtain ⟨x, hx⟩ := someAt l j hj'
            have hx0 := hl0 x (List.mem_of_getElem? hx)
            have hwj : IntKind.i64.wrap ((j : Int) + 1) = ((j + 1 : Nat) : Int) := IntWalk.i64_in _ (by omega)
            simp only [go_sem, Nat.reduceEqDiff, Nat.reduceAdd, Nat.reduceSub, Nat.reduceLT, Nat.reduceMul, Nat.reduceBEq, Nat.reduceLeDiff, ↓reduceIte, Int.reduceToNat, Nat.reduceGT, Int.reduceLE, Int.reduceLT, Int.reduceGE, Int.reduceGT, Int.reduceEq, Int.reduceNe, reduceCtorEq, mapAt iv l j x hx, iv, decide_eq_false (show ¬ x < 0 by omega), hwj]
            exact ⟨j + 1, by omega, by omega, le_mkSl rfl (Hp.le_refl _) (by simp [go_sem, hwj])⟩
          simp only [go_sem, Nat.reduceEqDiff, Nat.reduceAdd, Nat.reduceSub, Nat.reduceLT, Nat.reduceMul, Nat.reduceBEq, Nat.reduceLeDiff, ↓reduceIte, Int.reduceToNat, Nat.reduceGT, Int.reduceLE, Int.reduceLT, Int.reduceGE, Int.reduceGT, Int.reduceEq, Int.reduceNe, reduceCtorEq, hwk]
          exact ⟨k + 1, by omega, by omega, le_mkSl rfl (Hp.le_refl _) (by simp [go_sem, hwk])⟩
        refine callX_by (cf2 _) ?_
        rintro r hp5 ⟨f1, f2, rfl, e5⟩
        subst hp5
        simp only [go_sem, Nat.reduceEqDiff, Nat.reduceAdd, Nat.reduceSub, Nat.reduceLT, Nat.reduceMul, Nat.reduceBEq, Nat.reduceLeDiff, ↓reduceIte, Int.reduceToNat, Nat.reduceGT, Int.reduceLE, Int.reduceLT, Int.reduceGE, Int.reduceGT, Int.reduceEq, Int.reduceNe, reduceCtorEq]
        refine callX_by (cr _) ?_
        rintro r hp5 ⟨⟨f3, f4, rfl⟩, e5⟩
        subst hp5
        simp only [go_sem, Nat.reduceEqDiff, Nat.reduceAdd, Nat.reduceSub, Nat.reduceLT, Nat.reduceMul, Nat.reduceBEq, Nat.reduceLeDiff, ↓reduceIte, Int.reduceToNat, Nat.reduceGT, Int.reduceLE, Int.reduceLT, Int.reduceGE, Int.reduceGT, Int.reduceEq, Int.reduceNe, reduceCtorEq]
        have ss := fun (ha hb : Value) (l : List Bytes) hp => sameStrs_calls ha hb l l hp
        simp only [strsAV, decide_true] at ss
        refine callX_by (ss _ _ _ _) ?_
        rintro r hp5 ⟨rfl, e5⟩
        subst hp5
        simp only [go_sem, Nat.reduceEqDiff, Nat.reduceAdd, Nat.reduceSub, Nat.reduceLT, Nat.reduceMul, Nat.reduceBEq, Nat.reduceLeDiff, ↓reduceIte, Int.reduceToNat, Nat.reduceGT, Int.reduceLE, Int.reduceLT, Int.reduceGE, Int.reduceGT, Int.reduceEq, Int.reduceNe, reduceCtorEq]
        refine callX_by (ss _ _ _ _) ?_
        rintro r hp5 ⟨rfl, e5⟩
        subst hp5
        simp only [go_sem, Nat.reduceEqDiff, Nat.reduceAdd, Nat.reduceSub, Nat.reduceLT, Nat.reduceMul, Nat.reduceBEq, Nat.reduceLeDiff, ↓reduceIte, Int.reduceToNat, Nat.reduceGT, Int.reduceLE, Int.reduceLT, Int.reduceGE, Int.reduceGT, Int.reduceEq, Int.reduceNe, reduceCtorEq]
        refine callX_by (c1 _) ?_
        rintro r hp5 ⟨rfl, e5⟩
        subst hp5
        simp only [go_sem, Nat.reduceEqDiff, Nat.reduceAdd, Nat.reduceSub, Nat.reduceLT, Nat.reduceMul, Nat.reduceBEq, Nat.reduceLeDiff, ↓reduceIte, Int.reduceToNat, Nat.reduceGT, Int.reduceLE, Int.reduceLT, Int.reduceGE, Int.reduceGT, Int.reduceEq, Int.reduceNe, reduceCtorEq]
        refine callX_by (c2 _) ?_
        rintro r hp5 ⟨rfl, e5⟩
        subst hp5
        simp only [go_sem, Nat.reduceEqDiff, Nat.reduceAdd, Nat.reduceSub, Nat.reduceLT, Nat.reduceMul, Nat.reduceBEq, Nat.reduceLeDiff, ↓reduceIte, Int.reduceToNat, Nat.reduceGT, Int.reduceLE, Int.reduceLT, Int.reduceGE, Int.reduceGT, Int.reduceEq, Int.reduceNe, reduceCtorEq]
        refine callX_by (ss _ _ _ _) ?_
        rintro r hp5 ⟨rfl, e5⟩
        subst hp5
        simp only [go_sem, Nat.reduceEqDiff, Nat.reduceAdd, Nat.reduceSub, Nat.reduceLT, Nat.reduceMul, Nat.reduceBEq, Nat.reduceLeDiff, ↓reduceIte, Int.reduceToNat, Nat.reduceGT, Int.reduceLE, Int.reduceLT, Int.reduceGE, Int.reduceGT, Int.reduceEq, Int.reduceNe, reduceCtorEq]
        refine callX_by (ss _ _ _ _) ?_
        rintro r hp5 ⟨rfl, e5⟩
        subst hp5
        simp only [go_sem, Nat.reduceEqDiff, Nat.reduceAdd, Nat.reduceSub, Nat.reduceLT, Nat.reduceMul, Nat.reduceBEq, Nat.reduceLeDiff, ↓reduceIte, Int.reduceToNat, Nat.reduceGT, Int.reduceLE, Int.reduceLT, Int.reduceGE, Int.reduceGT, Int.reduceEq, Int.reduceNe, reduceCtorEq]
        refine callX_by (aw _ gI) ?_
        rintro r hp5 ⟨rfl, e5⟩
        subst hp5
        simp only [go_sem, Nat.reduceEqDiff, Nat.reduceAdd, Nat.reduceSub, Nat.reduceLT, Nat.reduceMul, Nat.reduceBEq, Nat.reduceLeDiff, ↓reduceIte, Int.reduceToNat, Nat.reduceGT, Int.reduceLE, Int.reduceLT, Int.reduceGE, Int.reduceGT, Int.reduceEq, Int.reduceNe, reduceCtorEq]
        exact ret_le (hp' := hp4) (Hp.le_trans (Hp.le_trans hL.le hI.le) (Hp.le_trans (Hp.le_addSp _ _) (Hp.le_addSp _ _))) ⟨rfl, rfl⟩
    · refine callX_by (aw _ hg) ?_
      rintro r hp9 ⟨rfl, rfl⟩
      simp only [go_sem, Nat.reduceEqDiff, Nat.reduceAdd, Nat.reduceSub, Nat.reduceLT, Nat.reduceMul, Nat.reduceBEq, Nat.reduceLeDiff, ↓reduceIte, Int.reduceToNat, Nat.reduceGT, Int.reduceLE, Int.reduceLT, Int.reduceGE, Int.reduceGT, Int.reduceEq, Int.reduceNe, reduceCtorEq]
      exact ret_same ⟨rfl, rfl⟩
  · refine callX_by (aw _ hg) ?_
    rintro r hp9 ⟨rfl, rfl⟩
    simp only [go_sem, Nat.reduceEqDiff, Nat.reduceAdd, Nat.reduceSub, Nat.reduceLT, Nat.reduceMul, Nat.reduceBEq, Nat.reduceLeDiff, ↓reduceIte, Int.reduceToNat, Nat.reduceGT, Int.reduceLE, Int.reduceLT, Int.reduceGE, Int.reduceGT, Int.reduceEq, Int.reduceNe, reduceCtorEq]
    exact ret_same ⟨rfl, rfl⟩
end Go.Proofs.YtppoacgeiooppaaGreat
