/- The reference of direct evaluation: a continuation receives a value. -/
import Derived.Test.YtkoachnlimebaaaGreatDoorCX8
import Derived.Test.YtkoachnlimebaaaGreatDoorCW11
import Derived.Test.YtkoachnlimebaaaGreatDoorCW11
set_option linter.unusedSimpArgs false
set_option linter.unusedVariables false
set_option maxRecDepth 20000
set_option maxHeartbeats 4000000
namespace Go.Proofs.YtkoachnlimebaaaGreatDoor
open Go.AL

/-- What a continuation makes of a value. -/
def ROutR (p : ProgG) (fuel : Int) (b : Nat) (hp : Hp) (l2 : List (TypeId × Nat × Value)) (s : RS) (o : OutG) (r : AV) (hp' : Hp) : Prop :=
  match o with
  | .go c => RMvR p fuel b hp s c r hp'
  | .emit n c => r = .tup [] ∧ ∃ s' : RS, hp' = (hp.setSp ((3, 1, s'.oh) :: l2)).setBlk b 100 (s'.cs p fuel) ∧ s'.how = s.how ∧ s'.val = s.val ∧ s'.outs = s.outs ++ [n] ∧ s'.steps = s.steps ∧ s'.over = s.over ∧ RCtl c s'
  | .fin how val => r = .tup [] ∧ hp' = hp.setBlk b 100 (({ s with how := how, val := val, over := true } : RS).cs p fuel)
theorem okk_cas2 {p : ProgG} (hpr : progB p = true) {t : TermG} {e : EnvG} {k : FrmG} (h : OkK p.ds p.fs (.cas t e k)) {v : ValG} (hv : OkV p.ds p.fs v) :
    ∀ ty n args, v = .con ty n args → ty = t.ty → 0 ≤ n ∧ ∃ c, t.cls[n.toNat]? = some c ∧ args.length ≤ c.names.length ∧ args.length ≤ 6 := by
  rintro ty n args rfl rfl
  cases h with | cas _ _ _ V L ho hc hva he hk =>
  cases hv with | con _ _ _ hh hl ha =>
  have hn := u_node hva
  simp [nodeB, ho] at hn
  obtain ⟨c, hcl, hcn⟩ := ucls_at hn.2 (has_xtor hh)
  have := xtor_small hpr t.ty n
  simp only [hasN, Bool.and_eq_true, decide_eq_true_eq] at hh
  rw [prodN_len] at hl
  exact ⟨hh.1.2, c, hcl, by omega, by omega⟩
theorem okk_obs2 {p : ProgG} (hpr : progB p = true) {t : TermG} {e : EnvG} {got : List BndG} {k : FrmG} (h : OkK p.ds p.fs (.obs t e got k)) {v : ValG} (hv : OkV p.ds p.fs v) :
    ∀ t' e', v = .obj t' e' → t'.ty = t.ty → 0 ≤ t.n ∧ ∃ c, t'.cls[t.n.toNat]? = some c ∧ got.length ≤ c.names.length ∧ got.length ≤ 6 := by
  rintro t' e' rfl hty
  cases h with | obs _ _ _ _ V L ho hva hg hl hk =>
  cases hv with | obj _ _ V' L' ho' hc' hva' he' =>
  have hn := u_node hva
  have hn' := u_node hva'
  simp [nodeB, ho] at hn
  simp [nodeB, ho'] at hn'
  have hh := hn.1.1.1.2
  rw [hty] at hn'
  obtain ⟨c, hcl, hcn⟩ := ucls_at hn'.2 (has_xtor hh)
  have := xtor_small hpr t.ty t.n
  simp only [hasN, Bool.and_eq_true, decide_eq_true_eq] at hh
  rw [typesG, if_pos (.inr ho), prodN_len] at hl
  exact ⟨hh.1.2, c, hcl, by omega, by omega⟩
theorem rreceive_calls (b : Nat) (p : ProgG) (hpr : progB p = true) (fuel : Int) (s : RS) (l2 : List (TypeId × Nat × Value)) {v : ValG} {k : FrmG} (hs : RCtl (.gv v k) s) (ok : OkC p.ds p.fs (.gv v k)) (hr : RC (.gv v k)) (hlen : s.outs.length ≤ 30000) (hp : Hp) (hb : hp.blk b = some (100, s.cs p fuel)) (hsp : hp.sp = (3, 1, s.oh) :: l2) :
    ACalls Tryz.prog 45 [ptr0 b] hp (ROutR p fuel b hp l2 s (passG p.ds p.fs v k)) := by
  obtain ⟨how, val, oh, outs, steps, term, t0, ea0, a0, a1, a2, a3, a4, a5, ka, over⟩ := s
  obtain ⟨hgv, hva, hka⟩ := hs
  obtain ⟨okv, okk⟩ := ok
  obtain ⟨rv, rk⟩ := hr
  simp only at hgv hva hka hlen hsp
  have hbm := hb
  simp only [RS.cs] at hbm
  have ok2 := hka.o
  obtain ⟨o0, o1, o2, o3, o4, o5⟩ : One a0 ∧ One a1 ∧ One a2 ∧ One a3 ∧ One a4 ∧ One a5 := by
    obtain ⟨_, _, _, _, _, _, e, h⟩ := hva.ones
    simp only [List.cons.injEq, and_true] at e
    obtain ⟨rfl, rfl, rfl, rfl, rfl, rfl⟩ := e
    exact h
  have fin : ∀ how' val', ACalls Tryz.prog 46 [.v (.pointer (some ⟨b, 0, none⟩)), .v (.int .i64 how'), .v (.int .i64 val')] hp _ := fun how' val' => rend_calls b p fuel _ how' val' hp hb
  refine acalls_of Tryz.func45 rfl (by decide +kernel) (awp_sound (mu := [245]) _ _ _ ?_)
  simp only [go_sem, Nat.reduceEqDiff, Nat.reduceAdd, Nat.reduceSub, Nat.reduceLT, Nat.reduceMul, Nat.reduceBEq, Nat.reduceLeDiff, ↓reduceIte, Int.reduceToNat, Nat.reduceGT, Int.reduceLE, Int.reduceLT, Int.reduceGE, Int.reduceGT, Int.reduceEq, Int.reduceNe, reduceCtorEq, ptr0]
  refine draw_by (mu := [245]) (fun h => h.blk b = some (100, RS.cs p fuel _)) (.take 0 (.take 1 (.take 2 (.take 3 (.take 4 (.take 5 (.take 6 (.take 7 (.br 8 (.br 9 (.take 10 (.done)) (.stop)) (.stop)))))))))) (by decide +kernel) hb (by decide +kernel) (by decide +kernel) ?_
  simp only [go_sem, Nat.reduceEqDiff, Nat.reduceAdd, Nat.reduceSub, Nat.reduceLT, Nat.reduceMul, Nat.reduceBEq, Nat.reduceLeDiff, ↓reduceIte, Int.reduceToNat, Nat.reduceGT, Int.reduceLE, Int.reduceLT, Int.reduceGE, Int.reduceGT, Int.reduceEq, Int.reduceNe, reduceCtorEq, hbm, ((AV.cells.eq_1 _).symm.trans o0.cells), o0.one, ((AV.cells.eq_1 _).symm.trans o1.cells), o1.one, ((AV.cells.eq_1 _).symm.trans o2.cells), o2.one, ((AV.cells.eq_1 _).symm.trans o3.cells), o3.one, ((AV.cells.eq_1 _).symm.trans o4.cells), o4.one, ((AV.cells.eq_1 _).symm.trans o5.cells), o5.one, ((AV.cells.eq_1 _).symm.trans ok2.cells), ok2.one]
  refine ⟨fun h e => by rw [e]; simp only [go_sem, Nat.reduceEqDiff, Nat.reduceAdd, Nat.reduceSub, Nat.reduceLT, Nat.reduceMul, Nat.reduceBEq, Nat.reduceLeDiff, ↓reduceIte, Int.reduceToNat, Nat.reduceGT, Int.reduceLE, Int.reduceLT, Int.reduceGE, Int.reduceGT, Int.reduceEq, Int.reduceNe, reduceCtorEq, RS.cs], fun h e => by rw [e]; simp only [go_sem, Nat.reduceEqDiff, Nat.reduceAdd, Nat.reduceSub, Nat.reduceLT, Nat.reduceMul, Nat.reduceBEq, Nat.reduceLeDiff, ↓reduceIte, Int.reduceToNat, Nat.reduceGT, Int.reduceLE, Int.reduceLT, Int.reduceGE, Int.reduceGT, Int.reduceEq, Int.reduceNe, reduceCtorEq, RS.cs], fun b2 hb2 => ?_⟩
  have nb : (b = b2) = False := eq_false (by rintro rfl; have := hb2.1; rw [hb] at this; cases this)
  have hds2 := fun T cs => Hp.del_set _ _ T cs hb2.1
  simp only [go_sem, Nat.reduceEqDiff, Nat.reduceAdd, Nat.reduceSub, Nat.reduceLT, Nat.reduceMul, Nat.reduceBEq, Nat.reduceLeDiff, ↓reduceIte, Int.reduceToNat, Nat.reduceGT, Int.reduceLE, Int.reduceLT, Int.reduceGE, Int.reduceGT, Int.reduceEq, Int.reduceNe, reduceCtorEq, nb, hds2, hbm, ((AV.cells.eq_1 _).symm.trans o0.cells), o0.one, ((AV.cells.eq_1 _).symm.trans o1.cells), o1.one, ((AV.cells.eq_1 _).symm.trans o2.cells), o2.one, ((AV.cells.eq_1 _).symm.trans o3.cells), o3.one, ((AV.cells.eq_1 _).symm.trans o4.cells), o4.one, ((AV.cells.eq_1 _).symm.trans o5.cells), o5.one, ((AV.cells.eq_1 _).symm.trans ok2.cells), ok2.one]
  refine ⟨by simp only [RS.cs], by simp only [RS.cs], ?_⟩
  cases hka with
  | nil q =>
    cases hva with
    | int n =>
      simp only [go_sem, Nat.reduceEqDiff, Nat.reduceAdd, Nat.reduceSub, Nat.reduceLT, Nat.reduceMul, Nat.reduceBEq, Nat.reduceLeDiff, ↓reduceIte, Int.reduceToNat, Nat.reduceGT, Int.reduceLE, Int.reduceLT, Int.reduceGE, Int.reduceGT, Int.reduceEq, Int.reduceNe, reduceCtorEq, hds2, decide_false, decide_true]
      refine callX_by (fin 0 n) ?_
      rintro r hp2 ⟨rfl, rfl⟩
      exact ret_same ⟨rfl, rfl⟩
    | con ty n args h gs ha =>
      simp only [go_sem, Nat.reduceEqDiff, Nat.reduceAdd, Nat.reduceSub, Nat.reduceLT, Nat.reduceMul, Nat.reduceBEq, Nat.reduceLeDiff, ↓reduceIte, Int.reduceToNat, Nat.reduceGT, Int.reduceLE, Int.reduceLT, Int.reduceGE, Int.reduceGT, Int.reduceEq, Int.reduceNe, reduceCtorEq, hds2, decide_false, decide_true]
      refine callX_by (fin 2 0) ?_
      rintro r hp2 ⟨rfl, rfl⟩
      exact ret_same ⟨rfl, rfl⟩
    | obj t e ea he =>
      simp only [go_sem, Nat.reduceEqDiff, Nat.reduceAdd, Nat.reduceSub, Nat.reduceLT, Nat.reduceMul, Nat.reduceBEq, Nat.reduceLeDiff, ↓reduceIte, Int.reduceToNat, Nat.reduceGT, Int.reduceLE, Int.reduceLT, Int.reduceGE, Int.reduceGT, Int.reduceEq, Int.reduceNe, reduceCtorEq, hds2, decide_false, decide_true]
      refine callX_by (fin 2 0) ?_
      rintro r hp2 ⟨rfl, rfl⟩
      exact ret_same ⟨rfl, rfl⟩
  | bnd t e got k ea ka h q gs ho he hg hk =>
    have hpass : passG p.ds p.fs v (.app t e got k) = .go (applyG p.ds p.fs t e (got ++ [.val v]) k) := by rw [passG, if_neg (fun h => ho h.1)]
    rw [hpass]
    obtain ⟨V, L, oa, hl, hi⟩ := okk_app hpr okk
    have hl6 := types_len oa
    have oe := he.o
    have ok3 := hk.o
    have hal := hg.len
    have hone := hg.all_one
    have hv2 : QB (.val v) _ := .val v _ hva
    have c := fun (h' : Value) (l : List (TypeId × Nat × Value)) => rbindMore_calls b p fuel _ t oa ho he h' (hg.snoc hv2) hk (by simp only [List.length_append, List.length_singleton]; omega) (hp.setSp l) hb
    simp only [ptr0, TermG.av, TermG.cs_eq, ztC, List.cons_append, List.nil_append] at c
    simp only [go_sem, Nat.reduceEqDiff, Nat.reduceAdd, Nat.reduceSub, Nat.reduceLT, Nat.reduceMul, Nat.reduceBEq, Nat.reduceLeDiff, ↓reduceIte, Int.reduceToNat, Nat.reduceGT, Int.reduceLE, Int.reduceLT, Int.reduceGE, Int.reduceGT, Int.reduceEq, Int.reduceNe, reduceCtorEq, hds2, decide_false, decide_true]
    refine draw_by (mu := [245]) (fun _ => True) (.take 0 (.take 1 (.take 2 (.take 3 (.take 4 (.take 5 (.take 6 (.take 7 (.take 8 (.take 9 (.take 10 (.take 11 (.take 12 (.take 14 (.take 18 (.take 19 (.take 20 (.take 21 (.br 13 (.br 15 (.br 16 (.br 17 (.br 22 (.done) (.stop)) (.stop)) (.stop)) (.stop)) (.br 15 (.br 13 (.br 16 (.br 17 (.br 22 (.done) (.stop)) (.stop)) (.stop)) (.br 16 (.br 13 (.br 17 (.br 22 (.done) (.stop)) (.stop)) (.stop)) (.stop))) (.stop))))))))))))))))))))) (by decide +kernel) trivial (by decide +kernel) (by decide +kernel) ?_
    simp (maxSteps := 4000000) only [go_sem, Nat.reduceEqDiff, Nat.reduceAdd, Nat.reduceSub, Nat.reduceLT, Nat.reduceMul, Nat.reduceBEq, Nat.reduceLeDiff, ↓reduceIte, Int.reduceToNat, Nat.reduceGT, Int.reduceLE, Int.reduceLT, Int.reduceGE, Int.reduceGT, Int.reduceEq, Int.reduceNe, reduceCtorEq, hds2, ((AV.cells.eq_1 _).symm.trans o0.cells), o0.one, ((AV.cells.eq_1 _).symm.trans o1.cells), o1.one, ((AV.cells.eq_1 _).symm.trans o2.cells), o2.one, ((AV.cells.eq_1 _).symm.trans o3.cells), o3.one, ((AV.cells.eq_1 _).symm.trans o4.cells), o4.one, ((AV.cells.eq_1 _).symm.trans o5.cells), o5.one, ((AV.cells.eq_1 _).symm.trans oe.cells), oe.one, ((AV.cells.eq_1 _).symm.trans ok3.cells), ok3.one]
    repeat' first
      | (refine append0_by Tryz.k95 Tryz.s103 Tryz.y103 Tryz.z103 rfl (by decide) rfl (Cast.nil 14) rfl (Cast.refl _) hone (by simp [maxLen]; omega) (by omega) (by simp [go_sem]) (fun h4 => ?_); try simp only [go_sem, Nat.reduceEqDiff, Nat.reduceAdd, Nat.reduceSub, Nat.reduceLT, Nat.reduceMul, Nat.reduceBEq, Nat.reduceLeDiff, ↓reduceIte, Int.reduceToNat, Nat.reduceGT, Int.reduceLE, Int.reduceLT, Int.reduceGE, Int.reduceGT, Int.reduceEq, Int.reduceNe, reduceCtorEq, hds2, ((AV.cells.eq_1 _).symm.trans o0.cells), o0.one, ((AV.cells.eq_1 _).symm.trans o1.cells), o1.one, ((AV.cells.eq_1 _).symm.trans o2.cells), o2.one, ((AV.cells.eq_1 _).symm.trans o3.cells), o3.one, ((AV.cells.eq_1 _).symm.trans o4.cells), o4.one, ((AV.cells.eq_1 _).symm.trans o5.cells), o5.one, ((AV.cells.eq_1 _).symm.trans oe.cells), oe.one, ((AV.cells.eq_1 _).symm.trans ok3.cells), ok3.one])
      | (refine append_at 0 Tryz.k95 Tryz.s103 Tryz.y103 Tryz.z103 rfl (by decide) rfl (Cast.refl _) rfl (Cast.refl _) rfl (by simp [go_sem, o0.one, o1.one, o2.one, o3.one, o4.one, o5.one]) (by simp [maxLen]; omega) (by first | omega | (simp; omega)) (by simp [go_sem]) (fun h5 => ?_); try simp only [go_sem, Nat.reduceEqDiff, Nat.reduceAdd, Nat.reduceSub, Nat.reduceLT, Nat.reduceMul, Nat.reduceBEq, Nat.reduceLeDiff, ↓reduceIte, Int.reduceToNat, Nat.reduceGT, Int.reduceLE, Int.reduceLT, Int.reduceGE, Int.reduceGT, Int.reduceEq, Int.reduceNe, reduceCtorEq])
      | (refine append_at 1 Tryz.k95 Tryz.s103 Tryz.y103 Tryz.z103 rfl (by decide) rfl (Cast.refl _) rfl (Cast.refl _) rfl (by simp [go_sem, o0.one, o1.one, o2.one, o3.one, o4.one, o5.one]) (by simp [maxLen]; omega) (by first | omega | (simp; omega)) (by simp [go_sem]) (fun h5 => ?_); try simp only [go_sem, Nat.reduceEqDiff, Nat.reduceAdd, Nat.reduceSub, Nat.reduceLT, Nat.reduceMul, Nat.reduceBEq, Nat.reduceLeDiff, ↓reduceIte, Int.reduceToNat, Nat.reduceGT, Int.reduceLE, Int.reduceLT, Int.reduceGE, Int.reduceGT, Int.reduceEq, Int.reduceNe, reduceCtorEq])
      | (refine append_at 2 Tryz.k95 Tryz.s103 Tryz.y103 Tryz.z103 rfl (by decide) rfl (Cast.refl _) rfl (Cast.refl _) rfl (by simp [go_sem, o0.one, o1.one, o2.one, o3.one, o4.one, o5.one]) (by simp [maxLen]; omega) (by first | omega | (simp; omega)) (by simp [go_sem]) (fun h5 => ?_); try simp only [go_sem, Nat.reduceEqDiff, Nat.reduceAdd, Nat.reduceSub, Nat.reduceLT, Nat.reduceMul, Nat.reduceBEq, Nat.reduceLeDiff, ↓reduceIte, Int.reduceToNat, Nat.reduceGT, Int.reduceLE, Int.reduceLT, Int.reduceGE, Int.reduceGT, Int.reduceEq, Int.reduceNe, reduceCtorEq])
      | (refine ⟨rfl, by simp, fun hd => ?_⟩; try simp only [go_sem, Nat.reduceEqDiff, Nat.reduceAdd, Nat.reduceSub, Nat.reduceLT, Nat.reduceMul, Nat.reduceBEq, Nat.reduceLeDiff, ↓reduceIte, Int.reduceToNat, Nat.reduceGT, Int.reduceLE, Int.reduceLT, Int.reduceGE, Int.reduceGT, Int.reduceEq, Int.reduceNe, reduceCtorEq, hds2, ((AV.cells.eq_1 _).symm.trans o0.cells), o0.one, ((AV.cells.eq_1 _).symm.trans o1.cells), o1.one, ((AV.cells.eq_1 _).symm.trans o2.cells), o2.one, ((AV.cells.eq_1 _).symm.trans o3.cells), o3.one, ((AV.cells.eq_1 _).symm.trans o4.cells), o4.one, ((AV.cells.eq_1 _).symm.trans o5.cells), o5.one, ((AV.cells.eq_1 _).symm.trans oe.cells), oe.one, ((AV.cells.eq_1 _).symm.trans ok3.cells), ok3.one])
      | (with_reducible refine And.intro ?_ ?_)
    all_goals
      refine callX_by (c _ _) ?_
      rintro r hp2 ⟨rfl, s', rfl, hR⟩
      exact ret_le (hp' := hp.setBlk b 100 (s'.cs p fuel)) ⟨fun _ _ h => h, fun _ _ h => h, (List.sublist_cons_self _ _).trans (List.sublist_cons_self _ _), fun _ h => h⟩ ⟨rfl, s', rfl, hR⟩
  | rgt t e k ea ka q ho he hk =>
    have oe := he.o
    have ok3 := hk.o
    cases hva with
    | con ty n args h gs ha =>
      have hpass : passG p.ds p.fs (.con ty n args) (.app t e [] k) = .fin 2 0 := by rw [passG, if_pos ⟨ho, rfl⟩]
      rw [hpass]
      simp only [go_sem, Nat.reduceEqDiff, Nat.reduceAdd, Nat.reduceSub, Nat.reduceLT, Nat.reduceMul, Nat.reduceBEq, Nat.reduceLeDiff, ↓reduceIte, Int.reduceToNat, Nat.reduceGT, Int.reduceLE, Int.reduceLT, Int.reduceGE, Int.reduceGT, Int.reduceEq, Int.reduceNe, reduceCtorEq, hds2, decide_false, decide_true]
      refine callX_by (fin 2 0) ?_
      rintro r hp2 ⟨rfl, rfl⟩
      exact ret_same ⟨rfl, rfl⟩
    | obj t' e' ea' he' =>
      have hpass : passG p.ds p.fs (.obj t' e') (.app t e [] k) = .fin 2 0 := by rw [passG, if_pos ⟨ho, rfl⟩]
      rw [hpass]
      simp only [go_sem, Nat.reduceEqDiff, Nat.reduceAdd, Nat.reduceSub, Nat.reduceLT, Nat.reduceMul, Nat.reduceBEq, Nat.reduceLeDiff, ↓reduceIte, Int.reduceToNat, Nat.reduceGT, Int.reduceLE, Int.reduceLT, Int.reduceGE, Int.reduceGT, Int.reduceEq, Int.reduceNe, reduceCtorEq, hds2, decide_false, decide_true]
      refine callX_by (fin 2 0) ?_
      rintro r hp2 ⟨rfl, rfl⟩
      exact ret_same ⟨rfl, rfl⟩
    | int n =>
      obtain ⟨V, L, oa, hl, hi⟩ := okk_app hpr okk
      obtain ⟨n1, n2, n3, n4⟩ := node_arity oa.nd oa.ap
      have ht2 : typesG p.ds p.fs t = [0, 0] := by simp [typesG, ho]
      rw [ht2] at n1
      simp at n1
      obtain ⟨x, hx⟩ := someAt t.args 1 (by omega)
      have hpass : passG p.ds p.fs (.int n) (.app t e [] k) = .go (.ev x e (.app t e [.val (.int n)] k)) := by
        rw [passG, if_neg (fun h => by cases h.2), List.nil_append, applyG_step (ty := 0) (a := x) (by rw [ht2]; rfl) hx, if_pos (by simp [plusB])]
      rw [hpass]
      simp only [go_sem, Nat.reduceEqDiff, Nat.reduceAdd, Nat.reduceSub, Nat.reduceLT, Nat.reduceMul, Nat.reduceBEq, Nat.reduceLeDiff, ↓reduceIte, Int.reduceToNat, Nat.reduceGT, Int.reduceLE, Int.reduceLT, Int.reduceGE, Int.reduceGT, Int.reduceEq, Int.reduceNe, reduceCtorEq, hds2, decide_false, decide_true]
      refine draw_by (mu := [245]) (fun _ => True) (.take 0 (.take 1 (.take 2 (.take 3 (.take 4 (.take 5 (.take 6 (.take 7 (.take 8 (.take 9 (.take 10 (.take 11 (.take 12 (.take 13 (.take 14 (.take 15 (.take 16 (.take 17 (.take 18 (.take 19 (.take 20 (.take 21 (.br 22 (.br 23 (.br 24 (.done) (.stop)) (.stop)) (.stop)))))))))))))))))))))))) (by decide +kernel) trivial (by decide +kernel) (by decide +kernel) ?_
      simp (maxSteps := 4000000) only [go_sem, Nat.reduceEqDiff, Nat.reduceAdd, Nat.reduceSub, Nat.reduceLT, Nat.reduceMul, Nat.reduceBEq, Nat.reduceLeDiff, ↓reduceIte, Int.reduceToNat, Nat.reduceGT, Int.reduceLE, Int.reduceLT, Int.reduceGE, Int.reduceGT, Int.reduceEq, Int.reduceNe, reduceCtorEq, hds2, mapAt TermG.av _ _ _ hx, TermG.av, TermG.cs_eq, ((AV.cells.eq_1 _).symm.trans oe.cells), oe.one, ((AV.cells.eq_1 _).symm.trans ok3.cells), ok3.one]
      intro q2
      have hko := QK.prm t e n k ka q2 ho hk
      have c := reval_calls b p fuel _ x ea _ oe hko.o hp hb
      simp only [ptr0, TermG.av, TermG.cs_eq] at c
      refine callX_by c ?_
      clear c
      rintro r hp2 ⟨rfl, rfl⟩
      exact ret_same ⟨rfl, _, rfl, rfl, rfl, rfl, rfl, rfl, rfl, ⟨rfl, rfl, he, hko⟩⟩
  | prm t e x k ka q ho hk =>
    have ok3 := hk.o
    cases hva with
    | con ty n args h gs ha =>
      have hpass : passG p.ds p.fs (.con ty n args) (.app t e [.val (.int x)] k) = .fin 2 0 := by rw [passG, if_pos ⟨ho, rfl⟩]
      rw [hpass]
      simp only [go_sem, Nat.reduceEqDiff, Nat.reduceAdd, Nat.reduceSub, Nat.reduceLT, Nat.reduceMul, Nat.reduceBEq, Nat.reduceLeDiff, ↓reduceIte, Int.reduceToNat, Nat.reduceGT, Int.reduceLE, Int.reduceLT, Int.reduceGE, Int.reduceGT, Int.reduceEq, Int.reduceNe, reduceCtorEq, hds2, decide_false, decide_true]
      refine callX_by (fin 2 0) ?_
      rintro r hp2 ⟨rfl, rfl⟩
      exact ret_same ⟨rfl, rfl⟩
    | obj t' e' ea' he' =>
      have hpass : passG p.ds p.fs (.obj t' e') (.app t e [.val (.int x)] k) = .fin 2 0 := by rw [passG, if_pos ⟨ho, rfl⟩]
      rw [hpass]
      simp only [go_sem, Nat.reduceEqDiff, Nat.reduceAdd, Nat.reduceSub, Nat.reduceLT, Nat.reduceMul, Nat.reduceBEq, Nat.reduceLeDiff, ↓reduceIte, Int.reduceToNat, Nat.reduceGT, Int.reduceLE, Int.reduceLT, Int.reduceGE, Int.reduceGT, Int.reduceEq, Int.reduceNe, reduceCtorEq, hds2, decide_false, decide_true]
      refine callX_by (fin 2 0) ?_
      rintro r hp2 ⟨rfl, rfl⟩
      exact ret_same ⟨rfl, rfl⟩
    | int n =>
      have hpass : passG p.ds p.fs (.int n) (.app t e [.val (.int x)] k) = .go (.gv (.int (primG t.n x n)) k) := by
        rw [passG, if_neg (fun h => by cases h.2), applyG_end (by simp [typesG, ho])]
        unfold performG; rw [if_pos ho]; rfl
      rw [hpass]
      have hn64 : I64 n := by cases rv; assumption
      have hx64 : I64 x := by
        cases rk with | app _ _ _ _ _ _ hg _ =>
        have := hg (.val (.int x)) (by simp)
        cases this with | val _ h => cases h; assumption
      simp only [go_sem, Nat.reduceEqDiff, Nat.reduceAdd, Nat.reduceSub, Nat.reduceLT, Nat.reduceMul, Nat.reduceBEq, Nat.reduceLeDiff, ↓reduceIte, Int.reduceToNat, Nat.reduceGT, Int.reduceLE, Int.reduceLT, Int.reduceGE, Int.reduceGT, Int.reduceEq, Int.reduceNe, reduceCtorEq, hds2, decide_false, decide_true]
      refine draw_by (mu := [245]) (fun _ => True) (.take 0 (.take 1 (.take 2 (.take 3 (.take 4 (.take 5 (.take 6 (.take 7 (.take 8 (.take 9 (.take 10 (.take 11 (.take 14 (.take 15 (.take 16 (.take 17 (.br 12 (.br 13 (.br 18 (.done) (.stop)) (.stop)) (.stop)))))))))))))))))) (by decide +kernel) trivial (by decide +kernel) (by decide +kernel) ?_
      simp (maxSteps := 4000000) only [go_sem, Nat.reduceEqDiff, Nat.reduceAdd, Nat.reduceSub, Nat.reduceLT, Nat.reduceMul, Nat.reduceBEq, Nat.reduceLeDiff, ↓reduceIte, Int.reduceToNat, Nat.reduceGT, Int.reduceLE, Int.reduceLT, Int.reduceGE, Int.reduceGT, Int.reduceEq, Int.reduceNe, reduceCtorEq, hds2, ((AV.cells.eq_1 _).symm.trans ok3.cells), ok3.one]
      refine callX_by (rprim_calls t.n x n hx64 hn64 _) ?_
      rintro r hp2 ⟨rfl, rfl⟩
      simp only [go_sem, Nat.reduceEqDiff, Nat.reduceAdd, Nat.reduceSub, Nat.reduceLT, Nat.reduceMul, Nat.reduceBEq, Nat.reduceLeDiff, ↓reduceIte, Int.reduceToNat, Nat.reduceGT, Int.reduceLE, Int.reduceLT, Int.reduceGE, Int.reduceGT, Int.reduceEq, Int.reduceNe, reduceCtorEq, hds2, ((AV.cells.eq_1 _).symm.trans ok3.cells), ok3.one]
      have c := rpass_calls b p fuel _ (.v (.int .i64 0)) (.v (.int .i64 (primG t.n x n))) (.v (.int .i64 0)) (.v (.slice none 0 0)) (.v (.slice none 0 0)) (.v (.pointer none)) ka ⟨rfl, rfl⟩ ⟨rfl, rfl⟩ ⟨rfl, rfl⟩ ⟨rfl, rfl⟩ ⟨rfl, rfl⟩ ⟨rfl, rfl⟩ ok3 _ hb
      simp only [ptr0] at c
      refine callX_by c ?_
      clear c
      rintro r hp2 ⟨rfl, rfl⟩
      exact ret_same ⟨rfl, _, rfl, rfl, rfl, rfl, rfl, rfl, rfl, ⟨rfl, .int _, hk⟩⟩
  | brn t e k ea ka q ho he hk =>
    have oe := he.o
    have ok3 := hk.o
    cases hva with
    | con ty n args h gs ha =>
      have hpass : passG p.ds p.fs (.con ty n args) (.tst t e k) = .fin 2 0 := by rfl
      rw [hpass]
      simp only [go_sem, Nat.reduceEqDiff, Nat.reduceAdd, Nat.reduceSub, Nat.reduceLT, Nat.reduceMul, Nat.reduceBEq, Nat.reduceLeDiff, ↓reduceIte, Int.reduceToNat, Nat.reduceGT, Int.reduceLE, Int.reduceLT, Int.reduceGE, Int.reduceGT, Int.reduceEq, Int.reduceNe, reduceCtorEq, hds2, decide_false, decide_true]
      refine callX_by (fin 2 0) ?_
      rintro r hp2 ⟨rfl, rfl⟩
      exact ret_same ⟨rfl, rfl⟩
    | obj t' e' ea' he' =>
      have hpass : passG p.ds p.fs (.obj t' e') (.tst t e k) = .fin 2 0 := by rfl
      rw [hpass]
      simp only [go_sem, Nat.reduceEqDiff, Nat.reduceAdd, Nat.reduceSub, Nat.reduceLT, Nat.reduceMul, Nat.reduceBEq, Nat.reduceLeDiff, ↓reduceIte, Int.reduceToNat, Nat.reduceGT, Int.reduceLE, Int.reduceLT, Int.reduceGE, Int.reduceGT, Int.reduceEq, Int.reduceNe, reduceCtorEq, hds2, decide_false, decide_true]
      refine callX_by (fin 2 0) ?_
      rintro r hp2 ⟨rfl, rfl⟩
      exact ret_same ⟨rfl, rfl⟩
    | int n =>
      have hal := okk_tst okk
      obtain ⟨x1, hx1⟩ := someAt t.args 1 (by omega)
      obtain ⟨x2, hx2⟩ := someAt t.args 2 (by omega)
      simp only [go_sem, Nat.reduceEqDiff, Nat.reduceAdd, Nat.reduceSub, Nat.reduceLT, Nat.reduceMul, Nat.reduceBEq, Nat.reduceLeDiff, ↓reduceIte, Int.reduceToNat, Nat.reduceGT, Int.reduceLE, Int.reduceLT, Int.reduceGE, Int.reduceGT, Int.reduceEq, Int.reduceNe, reduceCtorEq, hds2, decide_false, decide_true]
      refine brK_mk (fun g => ?_) (fun g => ?_) <;> simp only [go_sem, Nat.reduceEqDiff, Nat.reduceAdd, Nat.reduceSub, Nat.reduceLT, Nat.reduceMul, Nat.reduceBEq, Nat.reduceLeDiff, ↓reduceIte, Int.reduceToNat, Nat.reduceGT, Int.reduceLE, Int.reduceLT, Int.reduceGE, Int.reduceGT, Int.reduceEq, Int.reduceNe, reduceCtorEq, hds2, g]
      · have hn : n = 0 := of_decide_eq_true g
        have hpass : passG p.ds p.fs (.int n) (.tst t e k) = .go (.ev x1 e k) := by
          rw [passG]; simp [ho, hn, argK', hx1]
        rw [hpass]
        try simp only [go_sem, Nat.reduceEqDiff, Nat.reduceAdd, Nat.reduceSub, Nat.reduceLT, Nat.reduceMul, Nat.reduceBEq, Nat.reduceLeDiff, ↓reduceIte, Int.reduceToNat, Nat.reduceGT, Int.reduceLE, Int.reduceLT, Int.reduceGE, Int.reduceGT, Int.reduceEq, Int.reduceNe, reduceCtorEq, hds2, decide_false, decide_true]
        refine draw_by (mu := [245]) (fun _ => True) (.take 0 (.take 1 (.take 2 (.take 3 (.take 4 (.take 5 (.take 6 (.take 7 (.take 8 (.take 9 (.take 10 (.take 11 (.take 12 (.take 13 (.take 14 (.take 15 (.br 16 (.done) (.stop)))))))))))))))))) (by decide +kernel) trivial (by decide +kernel) (by decide +kernel) ?_
        simp (maxSteps := 4000000) only [go_sem, Nat.reduceEqDiff, Nat.reduceAdd, Nat.reduceSub, Nat.reduceLT, Nat.reduceMul, Nat.reduceBEq, Nat.reduceLeDiff, ↓reduceIte, Int.reduceToNat, Nat.reduceGT, Int.reduceLE, Int.reduceLT, Int.reduceGE, Int.reduceGT, Int.reduceEq, Int.reduceNe, reduceCtorEq, hds2, mapAt TermG.av _ _ _ hx1, TermG.av, TermG.cs_eq, ((AV.cells.eq_1 _).symm.trans oe.cells), oe.one, ((AV.cells.eq_1 _).symm.trans ok3.cells), ok3.one]
        have c := reval_calls b p fuel _ x1 ea ka oe ok3 hp hb
        simp only [ptr0, TermG.av, TermG.cs_eq] at c
        refine callX_by c ?_
        clear c
        rintro r hp2 ⟨rfl, rfl⟩
        exact ret_same ⟨rfl, _, rfl, rfl, rfl, rfl, rfl, rfl, rfl, ⟨rfl, rfl, he, hk⟩⟩
      · have hn : ¬ n = 0 := of_decide_eq_false g
        have hpass : passG p.ds p.fs (.int n) (.tst t e k) = .go (.ev x2 e k) := by
          rw [passG]; simp [ho, hn, argK', hx2]
        rw [hpass]
        try simp only [go_sem, Nat.reduceEqDiff, Nat.reduceAdd, Nat.reduceSub, Nat.reduceLT, Nat.reduceMul, Nat.reduceBEq, Nat.reduceLeDiff, ↓reduceIte, Int.reduceToNat, Nat.reduceGT, Int.reduceLE, Int.reduceLT, Int.reduceGE, Int.reduceGT, Int.reduceEq, Int.reduceNe, reduceCtorEq, hds2, decide_false, decide_true]
        refine draw_by (mu := [245]) (fun _ => True) (.take 0 (.take 1 (.take 2 (.take 3 (.take 4 (.take 5 (.take 6 (.take 7 (.take 8 (.take 9 (.take 10 (.take 11 (.take 12 (.take 13 (.take 14 (.take 15 (.br 16 (.done) (.stop)))))))))))))))))) (by decide +kernel) trivial (by decide +kernel) (by decide +kernel) ?_
        simp (maxSteps := 4000000) only [go_sem, Nat.reduceEqDiff, Nat.reduceAdd, Nat.reduceSub, Nat.reduceLT, Nat.reduceMul, Nat.reduceBEq, Nat.reduceLeDiff, ↓reduceIte, Int.reduceToNat, Nat.reduceGT, Int.reduceLE, Int.reduceLT, Int.reduceGE, Int.reduceGT, Int.reduceEq, Int.reduceNe, reduceCtorEq, hds2, mapAt TermG.av _ _ _ hx2, TermG.av, TermG.cs_eq, ((AV.cells.eq_1 _).symm.trans oe.cells), oe.one, ((AV.cells.eq_1 _).symm.trans ok3.cells), ok3.one]
        have c := reval_calls b p fuel _ x2 ea ka oe ok3 hp hb
        simp only [ptr0, TermG.av, TermG.cs_eq] at c
        refine callX_by c ?_
        clear c
        rintro r hp2 ⟨rfl, rfl⟩
        exact ret_same ⟨rfl, _, rfl, rfl, rfl, rfl, rfl, rfl, rfl, ⟨rfl, rfl, he, hk⟩⟩
  | cas t e k ea ka q he hk =>
    have oe := he.o
    have ok3 := hk.o
    cases hva with
    | int n =>
      have hpass : passG p.ds p.fs (.int n) (.cas t e k) = .fin 2 0 := rfl
      rw [hpass]
      simp only [go_sem, Nat.reduceEqDiff, Nat.reduceAdd, Nat.reduceSub, Nat.reduceLT, Nat.reduceMul, Nat.reduceBEq, Nat.reduceLeDiff, ↓reduceIte, Int.reduceToNat, Nat.reduceGT, Int.reduceLE, Int.reduceLT, Int.reduceGE, Int.reduceGT, Int.reduceEq, Int.reduceNe, reduceCtorEq, hds2, decide_false, decide_true]
      refine draw_by (mu := [245]) (fun _ => True) (.take 0 (.take 1 (.take 2 (.take 3 (.take 4 (.take 5 (.take 6 (.take 7 (.take 8 (.take 9 (.take 10 (.take 11 (.take 12 (.done)))))))))))))) (by decide +kernel) trivial (by decide +kernel) (by decide +kernel) ?_
      try simp only [go_sem, Nat.reduceEqDiff, Nat.reduceAdd, Nat.reduceSub, Nat.reduceLT, Nat.reduceMul, Nat.reduceBEq, Nat.reduceLeDiff, ↓reduceIte, Int.reduceToNat, Nat.reduceGT, Int.reduceLE, Int.reduceLT, Int.reduceGE, Int.reduceGT, Int.reduceEq, Int.reduceNe, reduceCtorEq, hds2, decide_false, decide_true, not_false_eq_true, ne_eq]
      refine callX_by (fin 2 0) ?_
      rintro r hp2 ⟨rfl, rfl⟩
      exact ret_same ⟨rfl, rfl⟩
    | obj t' e' ea' he' =>
      have hpass : passG p.ds p.fs (ValG.obj t' e') (.cas t e k) = .fin 2 0 := rfl
      rw [hpass]
      simp only [go_sem, Nat.reduceEqDiff, Nat.reduceAdd, Nat.reduceSub, Nat.reduceLT, Nat.reduceMul, Nat.reduceBEq, Nat.reduceLeDiff, ↓reduceIte, Int.reduceToNat, Nat.reduceGT, Int.reduceLE, Int.reduceLT, Int.reduceGE, Int.reduceGT, Int.reduceEq, Int.reduceNe, reduceCtorEq, hds2, decide_false, decide_true]
      refine draw_by (mu := [245]) (fun _ => True) (.take 0 (.take 1 (.take 2 (.take 3 (.take 4 (.take 5 (.take 6 (.take 7 (.take 8 (.take 9 (.take 10 (.take 11 (.take 12 (.done)))))))))))))) (by decide +kernel) trivial (by decide +kernel) (by decide +kernel) ?_
      try simp only [go_sem, Nat.reduceEqDiff, Nat.reduceAdd, Nat.reduceSub, Nat.reduceLT, Nat.reduceMul, Nat.reduceBEq, Nat.reduceLeDiff, ↓reduceIte, Int.reduceToNat, Nat.reduceGT, Int.reduceLE, Int.reduceLT, Int.reduceGE, Int.reduceGT, Int.reduceEq, Int.reduceNe, reduceCtorEq, hds2, decide_false, decide_true, not_false_eq_true, ne_eq]
      refine callX_by (fin 2 0) ?_
      rintro r hp2 ⟨rfl, rfl⟩
      exact ret_same ⟨rfl, rfl⟩
    | con ty n args h gs ha =>
      simp only [go_sem, Nat.reduceEqDiff, Nat.reduceAdd, Nat.reduceSub, Nat.reduceLT, Nat.reduceMul, Nat.reduceBEq, Nat.reduceLeDiff, ↓reduceIte, Int.reduceToNat, Nat.reduceGT, Int.reduceLE, Int.reduceLT, Int.reduceGE, Int.reduceGT, Int.reduceEq, Int.reduceNe, reduceCtorEq, hds2, decide_false, decide_true]
      refine draw_by (mu := [245]) (fun _ => True) (.take 0 (.take 1 (.take 2 (.take 3 (.take 4 (.take 5 (.take 6 (.take 7 (.take 8 (.take 9 (.take 10 (.take 11 (.take 12 (.done)))))))))))))) (by decide +kernel) trivial (by decide +kernel) (by decide +kernel) ?_
      simp only [go_sem, Nat.reduceEqDiff, Nat.reduceAdd, Nat.reduceSub, Nat.reduceLT, Nat.reduceMul, Nat.reduceBEq, Nat.reduceLeDiff, ↓reduceIte, Int.reduceToNat, Nat.reduceGT, Int.reduceLE, Int.reduceLT, Int.reduceGE, Int.reduceGT, Int.reduceEq, Int.reduceNe, reduceCtorEq, hds2, decide_false, decide_true]
      refine brK_mk (fun g => ?_) (fun g => ?_) <;> simp only [go_sem, Nat.reduceEqDiff, Nat.reduceAdd, Nat.reduceSub, Nat.reduceLT, Nat.reduceMul, Nat.reduceBEq, Nat.reduceLeDiff, ↓reduceIte, Int.reduceToNat, Nat.reduceGT, Int.reduceLE, Int.reduceLT, Int.reduceGE, Int.reduceGT, Int.reduceEq, Int.reduceNe, reduceCtorEq, hds2, g]
      rotate_left
      · have hty : ¬ ty = t.ty := by simpa using g
        have hpass : passG p.ds p.fs (.con ty n args) (.cas t e k) = .fin 2 0 := by rw [passG, if_neg hty]
        rw [hpass]
        refine callX_by (fin 2 0) ?_
        rintro r hp2 ⟨rfl, rfl⟩
        exact ret_same ⟨rfl, rfl⟩
      · have hty : ty = t.ty := by simpa using g
        obtain ⟨hn0, c, hcl, hlen2, hl6⟩ := okk_cas2 hpr okk okv ty n args rfl hty
        have hpass : passG p.ds p.fs (.con ty n args) (.cas t e k) = .go (.ev c.body (bindG e c.names args) k) := by
          rw [passG, if_pos hty, hcl]
        rw [hpass]
        refine draw_by (mu := [245]) (fun _ => True) (.take 0 (.take 1 (.take 2 (.take 3 (.take 4 (.take 5 (.take 6 (.take 7 (.take 8 (.br 9 (.br 10 (.done) (.stop)) (.stop))))))))))) (by decide +kernel) trivial (by decide +kernel) (by decide +kernel) ?_
        simp (maxSteps := 4000000) only [go_sem, Nat.reduceEqDiff, Nat.reduceAdd, Nat.reduceSub, Nat.reduceLT, Nat.reduceMul, Nat.reduceBEq, Nat.reduceLeDiff, ↓reduceIte, Int.reduceToNat, Nat.reduceGT, Int.reduceLE, Int.reduceLT, Int.reduceGE, Int.reduceGT, Int.reduceEq, Int.reduceNe, reduceCtorEq, hds2, mapAt ClauseG.av _ _ _ hcl, ClauseG.av, ClauseG.cs_eq]
        refine ⟨hn0, fun _ _ => hn0, ?_⟩
        intro v2 hv2
        have hds3 := fun T cs => Hp.del_set _ _ T cs hv2.1
        simp only [go_sem, Nat.reduceEqDiff, Nat.reduceAdd, Nat.reduceSub, Nat.reduceLT, Nat.reduceMul, Nat.reduceBEq, Nat.reduceLeDiff, ↓reduceIte, Int.reduceToNat, Nat.reduceGT, Int.reduceLE, Int.reduceLT, Int.reduceGE, Int.reduceGT, Int.reduceEq, Int.reduceNe, reduceCtorEq, hds2, hds3]
        refine draw_by (mu := [245]) (fun _ => True) (.take 0 (.take 1 (.take 2 (.take 3 (.take 4 (.take 5 (.take 6 (.take 7 (.take 8 (.take 9 (.take 10 (.take 12 (.take 13 (.take 14 (.take 15 (.br 11 (.br 16 (.done) (.stop)) (.stop))))))))))))))))) (by decide +kernel) trivial (by decide +kernel) (by decide +kernel) ?_
        simp (maxSteps := 4000000) only [go_sem, Nat.reduceEqDiff, Nat.reduceAdd, Nat.reduceSub, Nat.reduceLT, Nat.reduceMul, Nat.reduceBEq, Nat.reduceLeDiff, ↓reduceIte, Int.reduceToNat, Nat.reduceGT, Int.reduceLE, Int.reduceLT, Int.reduceGE, Int.reduceGT, Int.reduceEq, Int.reduceNe, reduceCtorEq, hds2, hds3, ((AV.cells.eq_1 _).symm.trans oe.cells), oe.one, ((AV.cells.eq_1 _).symm.trans ok3.cells), ok3.one]
        have c1 := fun hp => rextend_calls e ea he c.hn c.names h args gs ha hlen2 (by omega) hp
        simp only [strsAV] at c1
        refine callX_by (c1 _) ?_
        rintro r hp1 ⟨hr, rfl⟩
        have or1 := hr.o
        simp only [go_sem, Nat.reduceEqDiff, Nat.reduceAdd, Nat.reduceSub, Nat.reduceLT, Nat.reduceMul, Nat.reduceBEq, Nat.reduceLeDiff, ↓reduceIte, Int.reduceToNat, Nat.reduceGT, Int.reduceLE, Int.reduceLT, Int.reduceGE, Int.reduceGT, Int.reduceEq, Int.reduceNe, reduceCtorEq, hds2, hds3, ((AV.cells.eq_1 _).symm.trans or1.cells), or1.one, ((AV.cells.eq_1 _).symm.trans ok3.cells), ok3.one]
        have c2 := reval_calls b p fuel _ c.body r ka or1 ok3 _ hb
        simp only [ptr0, TermG.av, TermG.cs_eq] at c2
        refine callX_by c2 ?_
        rintro r' hp2 ⟨rfl, rfl⟩
        exact ret_same ⟨rfl, _, rfl, rfl, rfl, rfl, rfl, rfl, rfl, ⟨rfl, rfl, hr, hk⟩⟩
  | obs t e got k ka h q gs hg hk =>
    have ok3 := hk.o
    cases hva with
    | int n =>
      have hpass : passG p.ds p.fs (.int n) (.obs t e got k) = .fin 2 0 := rfl
      rw [hpass]
      simp only [go_sem, Nat.reduceEqDiff, Nat.reduceAdd, Nat.reduceSub, Nat.reduceLT, Nat.reduceMul, Nat.reduceBEq, Nat.reduceLeDiff, ↓reduceIte, Int.reduceToNat, Nat.reduceGT, Int.reduceLE, Int.reduceLT, Int.reduceGE, Int.reduceGT, Int.reduceEq, Int.reduceNe, reduceCtorEq, hds2, decide_false, decide_true]
      refine draw_by (mu := [245]) (fun _ => True) (.take 0 (.take 1 (.take 2 (.take 3 (.take 4 (.take 5 (.take 6 (.take 7 (.take 8 (.take 9 (.take 10 (.take 11 (.take 12 (.done)))))))))))))) (by decide +kernel) trivial (by decide +kernel) (by decide +kernel) ?_
      try simp only [go_sem, Nat.reduceEqDiff, Nat.reduceAdd, Nat.reduceSub, Nat.reduceLT, Nat.reduceMul, Nat.reduceBEq, Nat.reduceLeDiff, ↓reduceIte, Int.reduceToNat, Nat.reduceGT, Int.reduceLE, Int.reduceLT, Int.reduceGE, Int.reduceGT, Int.reduceEq, Int.reduceNe, reduceCtorEq, hds2, decide_false, decide_true, not_false_eq_true, ne_eq]
      refine callX_by (fin 2 0) ?_
      rintro r hp2 ⟨rfl, rfl⟩
      exact ret_same ⟨rfl, rfl⟩
    | con ty n args h' gs' ha' =>
      have hpass : passG p.ds p.fs (ValG.con ty n args) (.obs t e got k) = .fin 2 0 := rfl
      rw [hpass]
      simp only [go_sem, Nat.reduceEqDiff, Nat.reduceAdd, Nat.reduceSub, Nat.reduceLT, Nat.reduceMul, Nat.reduceBEq, Nat.reduceLeDiff, ↓reduceIte, Int.reduceToNat, Nat.reduceGT, Int.reduceLE, Int.reduceLT, Int.reduceGE, Int.reduceGT, Int.reduceEq, Int.reduceNe, reduceCtorEq, hds2, decide_false, decide_true]
      refine draw_by (mu := [245]) (fun _ => True) (.take 0 (.take 1 (.take 2 (.take 3 (.take 4 (.take 5 (.take 6 (.take 7 (.take 8 (.take 9 (.take 10 (.take 11 (.take 12 (.done)))))))))))))) (by decide +kernel) trivial (by decide +kernel) (by decide +kernel) ?_
      try simp only [go_sem, Nat.reduceEqDiff, Nat.reduceAdd, Nat.reduceSub, Nat.reduceLT, Nat.reduceMul, Nat.reduceBEq, Nat.reduceLeDiff, ↓reduceIte, Int.reduceToNat, Nat.reduceGT, Int.reduceLE, Int.reduceLT, Int.reduceGE, Int.reduceGT, Int.reduceEq, Int.reduceNe, reduceCtorEq, hds2, decide_false, decide_true, not_false_eq_true, ne_eq]
      refine callX_by (fin 2 0) ?_
      rintro r hp2 ⟨rfl, rfl⟩
      exact ret_same ⟨rfl, rfl⟩
    | obj t' e' ea' he' =>
      have oe := he'.o
      simp only [go_sem, Nat.reduceEqDiff, Nat.reduceAdd, Nat.reduceSub, Nat.reduceLT, Nat.reduceMul, Nat.reduceBEq, Nat.reduceLeDiff, ↓reduceIte, Int.reduceToNat, Nat.reduceGT, Int.reduceLE, Int.reduceLT, Int.reduceGE, Int.reduceGT, Int.reduceEq, Int.reduceNe, reduceCtorEq, hds2, decide_false, decide_true]
      refine draw_by (mu := [245]) (fun _ => True) (.take 0 (.take 1 (.take 2 (.take 3 (.take 4 (.take 5 (.take 6 (.take 7 (.take 8 (.take 9 (.take 10 (.take 11 (.take 12 (.done)))))))))))))) (by decide +kernel) trivial (by decide +kernel) (by decide +kernel) ?_
      simp only [go_sem, Nat.reduceEqDiff, Nat.reduceAdd, Nat.reduceSub, Nat.reduceLT, Nat.reduceMul, Nat.reduceBEq, Nat.reduceLeDiff, ↓reduceIte, Int.reduceToNat, Nat.reduceGT, Int.reduceLE, Int.reduceLT, Int.reduceGE, Int.reduceGT, Int.reduceEq, Int.reduceNe, reduceCtorEq, hds2, decide_false, decide_true]
      refine brK_mk (fun g => ?_) (fun g => ?_) <;> simp only [go_sem, Nat.reduceEqDiff, Nat.reduceAdd, Nat.reduceSub, Nat.reduceLT, Nat.reduceMul, Nat.reduceBEq, Nat.reduceLeDiff, ↓reduceIte, Int.reduceToNat, Nat.reduceGT, Int.reduceLE, Int.reduceLT, Int.reduceGE, Int.reduceGT, Int.reduceEq, Int.reduceNe, reduceCtorEq, hds2, g]
      rotate_left
      · have hty : ¬ t'.ty = t.ty := by simpa using g
        have hpass : passG p.ds p.fs (.obj t' e') (.obs t e got k) = .fin 2 0 := by rw [passG, if_neg hty]
        rw [hpass]
        refine callX_by (fin 2 0) ?_
        rintro r hp2 ⟨rfl, rfl⟩
        exact ret_same ⟨rfl, rfl⟩
      · have hty : t'.ty = t.ty := by simpa using g
        obtain ⟨hn0, c, hcl, hlen2, hl6⟩ := okk_obs2 hpr okk okv t' e' rfl hty
        have hpass : passG p.ds p.fs (.obj t' e') (.obs t e got k) = .go (.ev c.body (bindG e' c.names got) k) := by
          rw [passG, if_pos hty, hcl]
        rw [hpass]
        refine draw_by (mu := [245]) (fun _ => True) (.take 0 (.take 1 (.take 2 (.take 3 (.take 4 (.take 5 (.take 6 (.take 7 (.take 8 (.br 9 (.br 10 (.done) (.stop)) (.stop))))))))))) (by decide +kernel) trivial (by decide +kernel) (by decide +kernel) ?_
        simp (maxSteps := 4000000) only [go_sem, Nat.reduceEqDiff, Nat.reduceAdd, Nat.reduceSub, Nat.reduceLT, Nat.reduceMul, Nat.reduceBEq, Nat.reduceLeDiff, ↓reduceIte, Int.reduceToNat, Nat.reduceGT, Int.reduceLE, Int.reduceLT, Int.reduceGE, Int.reduceGT, Int.reduceEq, Int.reduceNe, reduceCtorEq, hds2, mapAt ClauseG.av _ _ _ hcl, ClauseG.av, ClauseG.cs_eq]
        refine ⟨hn0, fun _ _ => hn0, ?_⟩
        intro v2 hv2
        have hds3 := fun T cs => Hp.del_set _ _ T cs hv2.1
        simp only [go_sem, Nat.reduceEqDiff, Nat.reduceAdd, Nat.reduceSub, Nat.reduceLT, Nat.reduceMul, Nat.reduceBEq, Nat.reduceLeDiff, ↓reduceIte, Int.reduceToNat, Nat.reduceGT, Int.reduceLE, Int.reduceLT, Int.reduceGE, Int.reduceGT, Int.reduceEq, Int.reduceNe, reduceCtorEq, hds2, hds3]
        refine draw_by (mu := [245]) (fun _ => True) (.take 0 (.take 1 (.take 2 (.take 3 (.take 4 (.take 5 (.take 6 (.take 7 (.take 8 (.take 9 (.take 10 (.take 12 (.take 13 (.take 14 (.take 15 (.br 11 (.br 16 (.done) (.stop)) (.stop))))))))))))))))) (by decide +kernel) trivial (by decide +kernel) (by decide +kernel) ?_
        simp (maxSteps := 4000000) only [go_sem, Nat.reduceEqDiff, Nat.reduceAdd, Nat.reduceSub, Nat.reduceLT, Nat.reduceMul, Nat.reduceBEq, Nat.reduceLeDiff, ↓reduceIte, Int.reduceToNat, Nat.reduceGT, Int.reduceLE, Int.reduceLT, Int.reduceGE, Int.reduceGT, Int.reduceEq, Int.reduceNe, reduceCtorEq, hds2, hds3, ((AV.cells.eq_1 _).symm.trans oe.cells), oe.one, ((AV.cells.eq_1 _).symm.trans ok3.cells), ok3.one]
        have c1 := fun hp => rextend_calls e' a5 he' c.hn c.names h got gs hg hlen2 (by omega) hp
        simp only [strsAV] at c1
        refine callX_by (c1 _) ?_
        rintro r hp1 ⟨hr, rfl⟩
        have or1 := hr.o
        simp only [go_sem, Nat.reduceEqDiff, Nat.reduceAdd, Nat.reduceSub, Nat.reduceLT, Nat.reduceMul, Nat.reduceBEq, Nat.reduceLeDiff, ↓reduceIte, Int.reduceToNat, Nat.reduceGT, Int.reduceLE, Int.reduceLT, Int.reduceGE, Int.reduceGT, Int.reduceEq, Int.reduceNe, reduceCtorEq, hds2, hds3, ((AV.cells.eq_1 _).symm.trans or1.cells), or1.one, ((AV.cells.eq_1 _).symm.trans ok3.cells), ok3.one]
        have c2 := reval_calls b p fuel _ c.body r ka or1 ok3 _ hb
        simp only [ptr0, TermG.av, TermG.cs_eq] at c2
        refine callX_by c2 ?_
        rintro r' hp2 ⟨rfl, rfl⟩
        exact ret_same ⟨rfl, _, rfl, rfl, rfl, rfl, rfl, rfl, rfl, ⟨rfl, rfl, hr, hk⟩⟩
  | emt t e k ea ka q ho he hk =>
    have oe := he.o
    have ok3 := hk.o
    cases hva with
    | con ty n args h gs ha =>
      have hpass : passG p.ds p.fs (.con ty n args) (.tst t e k) = .fin 2 0 := by rfl
      rw [hpass]
      simp only [go_sem, Nat.reduceEqDiff, Nat.reduceAdd, Nat.reduceSub, Nat.reduceLT, Nat.reduceMul, Nat.reduceBEq, Nat.reduceLeDiff, ↓reduceIte, Int.reduceToNat, Nat.reduceGT, Int.reduceLE, Int.reduceLT, Int.reduceGE, Int.reduceGT, Int.reduceEq, Int.reduceNe, reduceCtorEq, hds2, decide_false, decide_true]
      refine callX_by (fin 2 0) ?_
      rintro r hp2 ⟨rfl, rfl⟩
      exact ret_same ⟨rfl, rfl⟩
    | obj t' e' ea' he' =>
      have hpass : passG p.ds p.fs (.obj t' e') (.tst t e k) = .fin 2 0 := by rfl
      rw [hpass]
      simp only [go_sem, Nat.reduceEqDiff, Nat.reduceAdd, Nat.reduceSub, Nat.reduceLT, Nat.reduceMul, Nat.reduceBEq, Nat.reduceLeDiff, ↓reduceIte, Int.reduceToNat, Nat.reduceGT, Int.reduceLE, Int.reduceLT, Int.reduceGE, Int.reduceGT, Int.reduceEq, Int.reduceNe, reduceCtorEq, hds2, decide_false, decide_true]
      refine callX_by (fin 2 0) ?_
      rintro r hp2 ⟨rfl, rfl⟩
      exact ret_same ⟨rfl, rfl⟩
    | int n =>
      have hal := okk_tst okk
      obtain ⟨x1, hx1⟩ := someAt t.args 1 (by omega)
      have hpass : passG p.ds p.fs (.int n) (.tst t e k) = .emit n (.ev x1 e k) := by
        rw [passG]; simp [ho, argK', hx1]
      rw [hpass]
      simp only [go_sem, Nat.reduceEqDiff, Nat.reduceAdd, Nat.reduceSub, Nat.reduceLT, Nat.reduceMul, Nat.reduceBEq, Nat.reduceLeDiff, ↓reduceIte, Int.reduceToNat, Nat.reduceGT, Int.reduceLE, Int.reduceLT, Int.reduceGE, Int.reduceGT, Int.reduceEq, Int.reduceNe, reduceCtorEq, hds2, decide_false, decide_true]
      refine draw_by (mu := [245]) (fun _ => True) (.take 0 (.take 1 (.take 2 (.take 3 (.take 4 (.take 6 (.take 7 (.br 5 (.br 8 (.br 9 (.take 10 (.take 11 (.take 12 (.br 13 (.done) (.stop))))) (.stop)) (.stop)) (.br 8 (.br 5 (.br 9 (.take 10 (.take 11 (.take 12 (.br 13 (.done) (.stop))))) (.stop)) (.stop)) (.stop)))))))))) (by decide +kernel) trivial (by decide +kernel) (by decide +kernel) ?_
      simp (maxSteps := 4000000) only [go_sem, Nat.reduceEqDiff, Nat.reduceAdd, Nat.reduceSub, Nat.reduceLT, Nat.reduceMul, Nat.reduceBEq, Nat.reduceLeDiff, ↓reduceIte, Int.reduceToNat, Nat.reduceGT, Int.reduceLE, Int.reduceLT, Int.reduceGE, Int.reduceGT, Int.reduceEq, Int.reduceNe, reduceCtorEq, hds2, hbm, ((AV.cells.eq_1 _).symm.trans oe.cells), oe.one, ((AV.cells.eq_1 _).symm.trans ok3.cells), ok3.one]
      repeat' first
        | (refine append_by (a := .lst 1 oh (outs.map iv)) (b := .lst 1 _ [iv n]) (l1 := [(3, 1, _)]) (l2 := l2) (h := oh) Tryz.k26 Tryz.s3 Tryz.y3 Tryz.z3 rfl (by decide)
            (by simp [go_sem]) (Cast.refl _) (by simp [go_sem, iv]; rfl) (Cast.refl _) (by simp [go_sem, hsp]; rfl) (by simp [go_sem, iv]) (by simp [maxLen]; omega) (by simp; omega) (by simp [go_sem]) (fun h' => ?_); try simp only [go_sem, Nat.reduceEqDiff, Nat.reduceAdd, Nat.reduceSub, Nat.reduceLT, Nat.reduceMul, Nat.reduceBEq, Nat.reduceLeDiff, ↓reduceIte, Int.reduceToNat, Nat.reduceGT, Int.reduceLE, Int.reduceLT, Int.reduceGE, Int.reduceGT, Int.reduceEq, Int.reduceNe, reduceCtorEq, hds2, hbm])
        | (refine ⟨rfl, by simp, fun hd => ?_⟩; try simp only [go_sem, Nat.reduceEqDiff, Nat.reduceAdd, Nat.reduceSub, Nat.reduceLT, Nat.reduceMul, Nat.reduceBEq, Nat.reduceLeDiff, ↓reduceIte, Int.reduceToNat, Nat.reduceGT, Int.reduceLE, Int.reduceLT, Int.reduceGE, Int.reduceGT, Int.reduceEq, Int.reduceNe, reduceCtorEq, hds2, hbm])
        | (with_reducible refine And.intro ?_ ?_)
      all_goals
        refine draw_by (mu := [245]) (fun _ => True) (.take 0 (.take 1 (.take 2 (.take 3 (.take 4 (.take 5 (.take 6 (.take 7 (.take 8 (.take 9 (.take 10 (.take 11 (.take 12 (.take 13 (.take 14 (.take 15 (.br 16 (.done) (.stop)))))))))))))))))) (by decide +kernel) trivial (by decide +kernel) (by decide +kernel) ?_
        simp (maxSteps := 4000000) only [go_sem, Nat.reduceEqDiff, Nat.reduceAdd, Nat.reduceSub, Nat.reduceLT, Nat.reduceMul, Nat.reduceBEq, Nat.reduceLeDiff, ↓reduceIte, Int.reduceToNat, Nat.reduceGT, Int.reduceLE, Int.reduceLT, Int.reduceGE, Int.reduceGT, Int.reduceEq, Int.reduceNe, reduceCtorEq, hds2, mapAt TermG.av _ _ _ hx1, TermG.av, TermG.cs_eq, ((AV.cells.eq_1 _).symm.trans oe.cells), oe.one, ((AV.cells.eq_1 _).symm.trans ok3.cells), ok3.one]
        have c := fun (X : Hp) hb' => reval_calls b p fuel (RS.mk how val h' (outs ++ [n]) steps term t0 ea0 (.v (.int .i64 0)) (.v (.int .i64 n)) (.v (.int .i64 0)) (.v (.slice none 0 0)) (.v (.slice none 0 0)) (.v (.pointer none)) (.ref q [.v (.int .i64 7), .v (.int .i64 t.op), .v (.int .i64 t.n), .v (.string (bs t.name)), .v (.int .i64 t.ty), .lst 6 t.ha (t.args.map TermG.av), .lst 7 t.hc (t.cls.map ClauseG.av), ea, .v (.slice none 0 0), .v (.int .i64 0), ka]) over) x1 ea ka oe ok3 X hb'
        simp only [ptr0, TermG.av, TermG.cs_eq] at c
        refine callX_by (c _ (by simp [Hp.setBlk, RS.cs, List.map_append])) ?_
        clear c
        rintro r hp2 ⟨rfl, rfl⟩
        rw [Hp.set_set]
        exact ret_le (hp' := (hp.setSp ((3, 1, h') :: l2)).setBlk b 100 _) ⟨fun _ _ h => h, fun _ _ h => h, List.sublist_cons_self _ _, fun _ h => h⟩ ⟨rfl, _, rfl, rfl, rfl, rfl, rfl, rfl, ⟨rfl, rfl, he, hk⟩⟩
end Go.Proofs.YtkoachnlimebaaaGreatDoor
/- The reference of direct evaluation: a run. -/
set_option linter.unusedSimpArgs false
set_option linter.unusedVariables false
set_option maxRecDepth 20000
set_option maxHeartbeats 4000000
namespace Go.Proofs.YtkoachnlimebaaaGreatDoor
open Go.AL

def ztT : TermG := .mk 0 0 [] 0 (.slice none 0 0) [] (.slice none 0 0) []
def rs0 : RS := ⟨0, 0, .slice none 0 0, [], 0, false, ztT, .v (.pointer none), .v (.int .i64 0), .v (.int .i64 0), .v (.int .i64 0), .v (.slice none 0 0), .v (.slice none 0 0), .v (.pointer none), .v (.pointer none), false⟩
def rs0c (p : ProgG) (fuel : Int) : List AV := [.lst 3 p.hd (p.ds.map DeclG.av), .lst 9 p.hf (p.fs.map FunG.av), .v (.int .i64 fuel), .v (.int .i64 0), .v (.int .i64 0), .v (.slice none 0 0), .v (.int .i64 0), .v (.bool false), .v (.int .i64 0), .v (.int .i64 0), .v (.string (bs [])), .v (.int .i64 0), .v (.slice none 0 0), .v (.slice none 0 0), .v (.pointer none), .v (.int .i64 0), .v (.int .i64 0), .v (.int .i64 0), .v (.slice none 0 0), .v (.slice none 0 0), .v (.pointer none), .v (.pointer none), .v (.bool false)]
def RNextR (p : ProgG) (fuel : Int) (b : Nat) (hp : Hp) (l2 : List (TypeId × Nat × Value)) (m' : MacG) (r : AV) (hp' : Hp) : Prop :=
  r = .tup [] ∧ ∃ s' : RS, hp' = (hp.setSp ((3, 1, s'.oh) :: l2)).setBlk b 100 (s'.cs p fuel) ∧ RMac m' s'
theorem rstepR_mac {p : ProgG} {fuel : Int} {f : Nat} {b : Nat} {hp X : Hp} {l2 : List (TypeId × Nat × Value)} {s : RS} (hsp : hp.sp = (3, 1, s.oh) :: l2) (hX : ∀ cs, X.setBlk b 100 cs = hp.setBlk b 100 cs) {m : MacG} (hm : RMac m s) (h0 : m.fin = none) {t : TermG} {e : EnvG} {k : FrmG} (hc : m.c = .ev t e k) (hs : ¬ m.steps = f) {r : AV} {hp' : Hp}
    (h : RMvR p fuel b X { s with steps := s.steps + 1 } (evalG p.ds p.fs t e k) r hp') : RNextR p fuel b hp l2 (nextG p.ds p.fs f m) r hp' := by
  obtain ⟨rfl, s', rfl, e1, e2, e3, e4, e5, e6, e7⟩ := h
  rw [next_ev h0 hc hs, hX]
  refine ⟨rfl, s', by rw [e3]; simp only; rw [sp_self hsp], by rw [e4]; exact hm.outs, by rw [e5]; simp only; rw [hm.steps]; rfl, fun _ => ⟨by rw [e6]; exact (hm.ctl h0).1, e7⟩, fun how val h => by cases h⟩
theorem routR_mac {p : ProgG} {fuel : Int} {f : Nat} {b : Nat} {hp : Hp} {l2 : List (TypeId × Nat × Value)} {s : RS} (hsp : hp.sp = (3, 1, s.oh) :: l2) {m : MacG} (hm : RMac m s) (h0 : m.fin = none) {v : ValG} {k : FrmG} (hc : m.c = .gv v k) {r : AV} {hp' : Hp}
    (h : ROutR p fuel b hp l2 s (passG p.ds p.fs v k) r hp') : RNextR p fuel b hp l2 (nextG p.ds p.fs f m) r hp' := by
  cases hq : passG p.ds p.fs v k with
  | go c =>
    rw [hq] at h
    obtain ⟨rfl, s', rfl, e1, e2, e3, e4, e5, e6, e7⟩ := h
    rw [next_go h0 hc hq]
    exact ⟨rfl, s', by rw [e3]; rw [sp_self hsp], by rw [e4]; exact hm.outs, by rw [e5]; exact hm.steps, fun _ => ⟨by rw [e6]; exact (hm.ctl h0).1, e7⟩, fun how val h => by cases h⟩
  | emit n c =>
    rw [hq] at h
    obtain ⟨rfl, s', rfl, e1, e2, e3, e4, e5, e6⟩ := h
    rw [next_emit h0 hc hq]
    exact ⟨rfl, s', rfl, by rw [e3, hm.outs], by rw [e4]; exact hm.steps, fun _ => ⟨by rw [e5]; exact (hm.ctl h0).1, e6⟩, fun how val h => by cases h⟩
  | fin how val =>
    rw [hq] at h
    obtain ⟨rfl, rfl⟩ := h
    rw [next_end h0 hc hq]
    refine ⟨rfl, { s with how := how, val := val, over := true }, by rw [sp_self hsp], hm.outs, hm.steps, fun h => (by cases h), fun how' val' h => ?_⟩
    simp only [Option.some.injEq, Prod.mk.injEq] at h
    exact ⟨rfl, h.1, h.2⟩
theorem rm_start {fs : List FunG} (hr : ∀ f ∈ fs, rgT f.body) {f : FunG} (hf : f ∈ fs) {inputs : List Int} (hin : ∀ n ∈ inputs, I64 n) : RM (startG f inputs) := by
  refine ⟨⟨hr f hf, rbind _ _ (fun b hb => ?_) .nil, .nil⟩, fun x hx => (by cases hx), fun a b hab => (by cases hab)⟩
  obtain ⟨x, hx, rfl⟩ := List.mem_map.1 hb
  exact .val _ (.int x (hin x hx))
def RRunR (p : ProgG) (fuel : Int) (inputs : List Int) (f : FunG) (hp : Hp) (r : AV) (hp' : Hp) : Prop :=
  ∃ h how val outs steps m, r = .agg [.v (.int .i64 how), .v (.int .i64 val), .lst 1 h (outs.map iv), .v (.int .i64 steps)] ∧ hp' = hp ∧
    EndsG p.ds p.fs fuel.toNat (startG f inputs) m ∧ m.fin = some (how, val) ∧ outs = m.outs ∧ steps = m.steps
theorem rrun_calls (p : ProgG) (hpr : progB p = true) (hrg : ∀ f ∈ p.fs, rgT f.body) (fuel : Int) (h0 : 0 ≤ fuel) (h1 : fuel ≤ 20000) (hi : Value) (inputs : List Int) (hin : ∀ n ∈ inputs, I64 n) (f : FunG) (hf : p.fs.head? = some f) (hlen : inputs.length = f.params.length) (hp : Hp) :
    ACalls Tryz.prog 16 [p.av, .v (.int .i64 fuel), intsAV hi inputs] hp (RRunR p fuel inputs f hp) := by
  have hf0 : p.fs[0]? = some f := by rw [← List.head?_eq_getElem?]; exact hf
  have hfp := (runp_ok hpr).hfp f (List.mem_of_getElem? hf0)
  refine acalls_addNil 103 14 ?_
  refine acalls_addNil 9 1 ?_
  refine acalls_addNil 3 1 ?_
  refine acalls_of Tryz.func16 rfl (by decide +kernel) (awp_sound (mu := [7, 15, 86]) _ _ _ ?_)
  simp only [go_sem, Nat.reduceEqDiff, Nat.reduceAdd, Nat.reduceSub, Nat.reduceLT, Nat.reduceMul, Nat.reduceBEq, Nat.reduceLeDiff, ↓reduceIte, Int.reduceToNat, Nat.reduceGT, Int.reduceLE, Int.reduceLT, Int.reduceGE, Int.reduceGT, Int.reduceEq, Int.reduceNe, reduceCtorEq, ProgG.av, ProgG.cs, declsAV, funsAV, intsAV]
  intro q b6 hb6 b hb
  have nb6 : b6 ≠ b := by rintro rfl; have := hb.1; simp [Hp.setBlk] at this
  have hb60 : hp.blk b6 = none := hb6.1
  have hb0 : hp.blk b = none := by have := hb.1; rwa [Hp.setBlk_blk, if_neg (Ne.symm nb6)] at this
  simp only [go_sem, Nat.reduceEqDiff, Nat.reduceAdd, Nat.reduceSub, Nat.reduceLT, Nat.reduceMul, Nat.reduceBEq, Nat.reduceLeDiff, ↓reduceIte, Int.reduceToNat, Nat.reduceGT, Int.reduceLE, Int.reduceLT, Int.reduceGE, Int.reduceGT, Int.reduceEq, Int.reduceNe, reduceCtorEq, mapAt FunG.av _ _ _ hf0, FunG.av, FunG.cs, paramsAV, List.length_map]
  refine castBlk_by b 100 (rs0c p fuel) (rs0.cs p fuel) (by simp [go_sem, Hp.setBlk, rs0c]) rfl (fun m h => ?_) ?_
  · obtain ⟨x1, x2, x3, x4, x5, x6, x7, x8, x9, x10, x11, x12, x13, x14, x15⟩ := h
    exact ⟨x1, x2, x3, x4, x5, (Cast.nil 1).2 m trivial, x7, x8, x9, x10, x11, x12, (Cast.nil 6).2 m trivial, (Cast.nil 7).2 m trivial, x15⟩
  refine aw_loopX 93 (fun y : Nat × Value × Value × List AV => [(1, .v (.int .i64 fuel)), (2, .lst 1 hi (inputs.map iv)), (3, .ref q [.lst 3 p.hd (p.ds.map DeclG.av), .lst 9 p.hf (p.fs.map FunG.av)]), (6, ptr0 b6), (7, ptr0 b), (8, strsAV y.2.1 ((f.params.take y.1).map ParamG.name)), (9, .lst 14 y.2.2.1 y.2.2.2), (20, .lst 2 f.hp (f.params.map ParamG.av)), (21, .v (.int .i64 f.params.length)), (22, .v (.int .i64 y.1))])
    (fun y => ((hp.setSp ((3, 1, .slice none 0 0) :: (9, 1, y.2.1) :: (103, 14, y.2.2.1) :: hp.sp)).setBlk b6 30 zeroRun).setBlk b 100 (rs0.cs p fuel))
    (fun y => y.1 ≤ f.params.length ∧ QBs ((inputs.take y.1).map fun n => .val (.int n)) y.2.2.2) (fun y => f.params.length - y.1) (0, .slice none 0 0, .slice none 0 0, []) ⟨Nat.zero_le _, .nil⟩
    (le_of_cast rfl (by simp only [go_sem, Nat.reduceEqDiff, Nat.reduceAdd, Nat.reduceSub, Nat.reduceLT, Nat.reduceMul, Nat.reduceBEq, Nat.reduceLeDiff, ↓reduceIte, Int.reduceToNat, Nat.reduceGT, Int.reduceLE, Int.reduceLT, Int.reduceGE, Int.reduceGT, Int.reduceEq, Int.reduceNe, reduceCtorEq, Hp.set_set, zeroRun]; exact Hp.le_refl _) (by simp [go_sem, ptr0, strsAV, Cast.refl]; exact ⟨Cast.nil 1, Cast.nil 14⟩)) ?_
  rintro ⟨k, hn, hl, gs⟩ ⟨hk, hgs⟩
  simp only at hk hgs
  have hgl : gs.length = k := by rw [hgs.len]; simp; omega
  refine awp_sound (mu := [7, 15, 86]) _ _ _ ?_
  simp only [go_sem, Nat.reduceEqDiff, Nat.reduceAdd, Nat.reduceSub, Nat.reduceLT, Nat.reduceMul, Nat.reduceBEq, Nat.reduceLeDiff, ↓reduceIte, Int.reduceToNat, Nat.reduceGT, Int.reduceLE, Int.reduceLT, Int.reduceGE, Int.reduceGT, Int.reduceEq, Int.reduceNe, reduceCtorEq, ptr0, strsAV]
  refine brK_mk (fun b1 => ?_) (fun b1 => ?_) <;> simp only [go_sem, Nat.reduceEqDiff, Nat.reduceAdd, Nat.reduceSub, Nat.reduceLT, Nat.reduceMul, Nat.reduceBEq, Nat.reduceLeDiff, ↓reduceIte, Int.reduceToNat, Nat.reduceGT, Int.reduceLE, Int.reduceLT, Int.reduceGE, Int.reduceGT, Int.reduceEq, Int.reduceNe, reduceCtorEq, b1]
  · have hlt : k < f.params.length := by simpa using b1
    obtain ⟨a, ha⟩ := someAt f.params k hlt
    obtain ⟨n0, hn0⟩ := someAt inputs k (by omega)
    have hwu : IntKind.i64.wrap ((k : Int) + 1) = ((k + 1 : Nat) : Int) := IntWalk.i64_in _ (by omega)
    have htk : (f.params.take (k + 1)).map ParamG.name = (f.params.take k).map ParamG.name ++ [a.name] := by rw [List.take_add_one, ha]; simp
    have hti : (inputs.take (k + 1)).map (fun n => BndG.val (.int n)) = (inputs.take k).map (fun n => BndG.val (.int n)) ++ [.val (.int n0)] := by rw [List.take_add_one, hn0]; simp
    simp only [go_sem, Nat.reduceEqDiff, Nat.reduceAdd, Nat.reduceSub, Nat.reduceLT, Nat.reduceMul, Nat.reduceBEq, Nat.reduceLeDiff, ↓reduceIte, Int.reduceToNat, Nat.reduceGT, Int.reduceLE, Int.reduceLT, Int.reduceGE, Int.reduceGT, Int.reduceEq, Int.reduceNe, reduceCtorEq, mapAt ParamG.av _ _ _ ha, ParamG.av, ParamG.cs]
    intro v hv
    have hds := fun T cs => Hp.del_set _ _ T cs hv.1
    simp only [go_sem, Nat.reduceEqDiff, Nat.reduceAdd, Nat.reduceSub, Nat.reduceLT, Nat.reduceMul, Nat.reduceBEq, Nat.reduceLeDiff, ↓reduceIte, Int.reduceToNat, Nat.reduceGT, Int.reduceLE, Int.reduceLT, Int.reduceGE, Int.reduceGT, Int.reduceEq, Int.reduceNe, reduceCtorEq, hds]
    refine draw_by (mu := [7, 15, 86]) (fun _ => True) (.take 0 (.take 1 (.take 2 (.take 5 (.take 6 (.take 7 (.take 8 (.take 9 (.br 3 (.br 4 (.br 10 (.br 11 (.br 12 (.br 13 (.take 14 (.take 15 (.done))) (.stop)) (.stop)) (.stop)) (.stop)) (.br 10 (.br 4 (.br 11 (.br 12 (.br 13 (.take 14 (.take 15 (.done))) (.stop)) (.stop)) (.stop)) (.br 11 (.br 4 (.br 12 (.br 13 (.take 14 (.take 15 (.done))) (.stop)) (.stop)) (.br 12 (.br 4 (.br 13 (.take 14 (.take 15 (.done))) (.stop)) (.stop)) (.stop))) (.stop))) (.stop))) (.br 10 (.br 3 (.br 4 (.br 11 (.br 12 (.br 13 (.take 14 (.take 15 (.done))) (.stop)) (.stop)) (.stop)) (.br 11 (.br 4 (.br 12 (.br 13 (.take 14 (.take 15 (.done))) (.stop)) (.stop)) (.br 12 (.br 4 (.br 13 (.take 14 (.take 15 (.done))) (.stop)) (.stop)) (.stop))) (.stop))) (.br 11 (.br 3 (.br 4 (.br 12 (.br 13 (.take 14 (.take 15 (.done))) (.stop)) (.stop)) (.br 12 (.br 4 (.br 13 (.take 14 (.take 15 (.done))) (.stop)) (.stop)) (.stop))) (.br 12 (.br 3 (.br 4 (.br 13 (.take 14 (.take 15 (.done))) (.stop)) (.stop)) (.stop)) (.stop))) (.stop))) (.stop))))))))))) (by decide +kernel) trivial (by decide +kernel) (by decide +kernel) ?_
    simp only [go_sem, Nat.reduceEqDiff, Nat.reduceAdd, Nat.reduceSub, Nat.reduceLT, Nat.reduceMul, Nat.reduceBEq, Nat.reduceLeDiff, ↓reduceIte, Int.reduceToNat, Nat.reduceGT, Int.reduceLE, Int.reduceLT, Int.reduceGE, Int.reduceGT, Int.reduceEq, Int.reduceNe, reduceCtorEq, hds, mapAt iv _ _ _ hn0, iv]
    repeat' first
      | (refine append_at 1 Tryz.k95 Tryz.s103 Tryz.y103 Tryz.z103 rfl (by decide) rfl (Cast.refl _) rfl (Cast.refl _) rfl (by simp [go_sem]) (by simp [maxLen]; omega) (by first | omega | (simp; omega)) (by simp [go_sem]) (fun h5 => ?_); try simp only [go_sem, Nat.reduceEqDiff, Nat.reduceAdd, Nat.reduceSub, Nat.reduceLT, Nat.reduceMul, Nat.reduceBEq, Nat.reduceLeDiff, ↓reduceIte, Int.reduceToNat, Nat.reduceGT, Int.reduceLE, Int.reduceLT, Int.reduceGE, Int.reduceGT, Int.reduceEq, Int.reduceNe, reduceCtorEq, hwu])
      | (refine append_at 1 Tryz.k101 Tryz.s9 Tryz.y9 Tryz.z9 rfl (by decide) rfl (Cast.refl _) rfl (Cast.refl _) rfl (by simp [go_sem]) (by simp [maxLen]; omega) (by first | omega | (simp; omega)) (by simp [go_sem]) (fun h4 => ?_); try simp only [go_sem, Nat.reduceEqDiff, Nat.reduceAdd, Nat.reduceSub, Nat.reduceLT, Nat.reduceMul, Nat.reduceBEq, Nat.reduceLeDiff, ↓reduceIte, Int.reduceToNat, Nat.reduceGT, Int.reduceLE, Int.reduceLT, Int.reduceGE, Int.reduceGT, Int.reduceEq, Int.reduceNe, reduceCtorEq, hwu])
      | (refine append_at 2 Tryz.k95 Tryz.s103 Tryz.y103 Tryz.z103 rfl (by decide) rfl (Cast.refl _) rfl (Cast.refl _) rfl (by simp [go_sem]) (by simp [maxLen]; omega) (by first | omega | (simp; omega)) (by simp [go_sem]) (fun h5 => ?_); try simp only [go_sem, Nat.reduceEqDiff, Nat.reduceAdd, Nat.reduceSub, Nat.reduceLT, Nat.reduceMul, Nat.reduceBEq, Nat.reduceLeDiff, ↓reduceIte, Int.reduceToNat, Nat.reduceGT, Int.reduceLE, Int.reduceLT, Int.reduceGE, Int.reduceGT, Int.reduceEq, Int.reduceNe, reduceCtorEq, hwu])
      | (refine append_at 2 Tryz.k101 Tryz.s9 Tryz.y9 Tryz.z9 rfl (by decide) rfl (Cast.refl _) rfl (Cast.refl _) rfl (by simp [go_sem]) (by simp [maxLen]; omega) (by first | omega | (simp; omega)) (by simp [go_sem]) (fun h4 => ?_); try simp only [go_sem, Nat.reduceEqDiff, Nat.reduceAdd, Nat.reduceSub, Nat.reduceLT, Nat.reduceMul, Nat.reduceBEq, Nat.reduceLeDiff, ↓reduceIte, Int.reduceToNat, Nat.reduceGT, Int.reduceLE, Int.reduceLT, Int.reduceGE, Int.reduceGT, Int.reduceEq, Int.reduceNe, reduceCtorEq, hwu])
      | (refine append_at 3 Tryz.k95 Tryz.s103 Tryz.y103 Tryz.z103 rfl (by decide) rfl (Cast.refl _) rfl (Cast.refl _) rfl (by simp [go_sem]) (by simp [maxLen]; omega) (by first | omega | (simp; omega)) (by simp [go_sem]) (fun h5 => ?_); try simp only [go_sem, Nat.reduceEqDiff, Nat.reduceAdd, Nat.reduceSub, Nat.reduceLT, Nat.reduceMul, Nat.reduceBEq, Nat.reduceLeDiff, ↓reduceIte, Int.reduceToNat, Nat.reduceGT, Int.reduceLE, Int.reduceLT, Int.reduceGE, Int.reduceGT, Int.reduceEq, Int.reduceNe, reduceCtorEq, hwu])
      | (refine append_at 3 Tryz.k101 Tryz.s9 Tryz.y9 Tryz.z9 rfl (by decide) rfl (Cast.refl _) rfl (Cast.refl _) rfl (by simp [go_sem]) (by simp [maxLen]; omega) (by first | omega | (simp; omega)) (by simp [go_sem]) (fun h4 => ?_); try simp only [go_sem, Nat.reduceEqDiff, Nat.reduceAdd, Nat.reduceSub, Nat.reduceLT, Nat.reduceMul, Nat.reduceBEq, Nat.reduceLeDiff, ↓reduceIte, Int.reduceToNat, Nat.reduceGT, Int.reduceLE, Int.reduceLT, Int.reduceGE, Int.reduceGT, Int.reduceEq, Int.reduceNe, reduceCtorEq, hwu])
      | (refine append_at 4 Tryz.k95 Tryz.s103 Tryz.y103 Tryz.z103 rfl (by decide) rfl (Cast.refl _) rfl (Cast.refl _) rfl (by simp [go_sem]) (by simp [maxLen]; omega) (by first | omega | (simp; omega)) (by simp [go_sem]) (fun h5 => ?_); try simp only [go_sem, Nat.reduceEqDiff, Nat.reduceAdd, Nat.reduceSub, Nat.reduceLT, Nat.reduceMul, Nat.reduceBEq, Nat.reduceLeDiff, ↓reduceIte, Int.reduceToNat, Nat.reduceGT, Int.reduceLE, Int.reduceLT, Int.reduceGE, Int.reduceGT, Int.reduceEq, Int.reduceNe, reduceCtorEq, hwu])
      | (refine append_at 4 Tryz.k101 Tryz.s9 Tryz.y9 Tryz.z9 rfl (by decide) rfl (Cast.refl _) rfl (Cast.refl _) rfl (by simp [go_sem]) (by simp [maxLen]; omega) (by first | omega | (simp; omega)) (by simp [go_sem]) (fun h4 => ?_); try simp only [go_sem, Nat.reduceEqDiff, Nat.reduceAdd, Nat.reduceSub, Nat.reduceLT, Nat.reduceMul, Nat.reduceBEq, Nat.reduceLeDiff, ↓reduceIte, Int.reduceToNat, Nat.reduceGT, Int.reduceLE, Int.reduceLT, Int.reduceGE, Int.reduceGT, Int.reduceEq, Int.reduceNe, reduceCtorEq, hwu])
      | (refine ⟨rfl, by simp, fun hd => ?_⟩; try simp only [go_sem, Nat.reduceEqDiff, Nat.reduceAdd, Nat.reduceSub, Nat.reduceLT, Nat.reduceMul, Nat.reduceBEq, Nat.reduceLeDiff, ↓reduceIte, Int.reduceToNat, Nat.reduceGT, Int.reduceLE, Int.reduceLT, Int.reduceGE, Int.reduceGT, Int.reduceEq, Int.reduceNe, reduceCtorEq])
      | (with_reducible refine And.intro ?_ ?_)
    all_goals
      refine ⟨(k + 1, h4, h5, gs ++ [.agg (.v (.bool false) :: ([.v (.int .i64 0), .v (.int .i64 n0), .v (.int .i64 0), .v (.slice none 0 0), .v (.slice none 0 0), .v (.pointer none)] ++ (ztC ++ [.v (.pointer none)])))]), by simp only; omega, ⟨by simp only; omega, by simp only [hti]; exact hgs.snoc (.val _ _ (.int n0))⟩, le_mkSl rfl ⟨fun _ _ h => h, fun _ _ h => h, ?_, fun _ h => h⟩ (by rw [htk]; simp [go_sem, hwu, strsAV, ptr0, ztC])⟩
      simp only [go_sem, Nat.reduceEqDiff, Nat.reduceAdd, Nat.reduceSub, Nat.reduceLT, Nat.reduceMul, Nat.reduceBEq, Nat.reduceLeDiff, ↓reduceIte, Int.reduceToNat, Nat.reduceGT, Int.reduceLE, Int.reduceLT, Int.reduceGE, Int.reduceGT, Int.reduceEq, Int.reduceNe, reduceCtorEq]
      repeat first | exact List.Sublist.refl _ | apply List.Sublist.cons
  · have e0 : k = f.params.length := by simp at b1; omega
    subst e0
    rw [List.take_length]
    rw [← hlen, List.take_length] at hgs
    refine draw_by (mu := [7, 15, 86]) (fun _ => True) (.take 0 (.take 1 (.take 2 (.take 3 (.take 4 (.take 5 (.take 6 (.take 7 (.br 8 (.br 9 (.br 10 (.br 11 (.done) (.stop)) (.stop)) (.stop)) (.br 9 (.br 8 (.br 10 (.br 11 (.done) (.stop)) (.stop)) (.br 10 (.br 8 (.br 11 (.done) (.stop)) (.stop)) (.stop))) (.stop))))))))))) (by decide +kernel) trivial (by decide +kernel) (by decide +kernel) ?_
    simp only [go_sem, Nat.reduceEqDiff, Nat.reduceAdd, Nat.reduceSub, Nat.reduceLT, Nat.reduceMul, Nat.reduceBEq, Nat.reduceLeDiff, ↓reduceIte, Int.reduceToNat, Nat.reduceGT, Int.reduceLE, Int.reduceLT, Int.reduceGE, Int.reduceGT, Int.reduceEq, Int.reduceNe, reduceCtorEq, mapAt FunG.av _ _ _ hf0, FunG.av, FunG.cs, paramsAV]
    have c1 := fun hp => rextend_calls .nil (.v (.pointer none)) .nil hn (f.params.map ParamG.name) hl _ gs hgs (by simp; omega) (by simp; omega) hp
    simp only [strsAV] at c1
    repeat' first
      | (refine callX_by (c1 _) ?_; rintro r hp1 ⟨hr, e1⟩; subst e1; have or1 := hr.o; try simp only [go_sem, Nat.reduceEqDiff, Nat.reduceAdd, Nat.reduceSub, Nat.reduceLT, Nat.reduceMul, Nat.reduceBEq, Nat.reduceLeDiff, ↓reduceIte, Int.reduceToNat, Nat.reduceGT, Int.reduceLE, Int.reduceLT, Int.reduceGE, Int.reduceGT, Int.reduceEq, Int.reduceNe, reduceCtorEq, ((AV.cells.eq_1 _).symm.trans or1.cells), or1.one])
      | (with_reducible intro q2; try simp only [go_sem, Nat.reduceEqDiff, Nat.reduceAdd, Nat.reduceSub, Nat.reduceLT, Nat.reduceMul, Nat.reduceBEq, Nat.reduceLeDiff, ↓reduceIte, Int.reduceToNat, Nat.reduceGT, Int.reduceLE, Int.reduceLT, Int.reduceGE, Int.reduceGT, Int.reduceEq, Int.reduceNe, reduceCtorEq])
      | (with_reducible refine And.intro ?_ ?_)
    all_goals try simp only [go_sem, Nat.reduceEqDiff, Nat.reduceAdd, Nat.reduceSub, Nat.reduceLT, Nat.reduceMul, Nat.reduceBEq, Nat.reduceLeDiff, ↓reduceIte, Int.reduceToNat, Nat.reduceGT, Int.reduceLE, Int.reduceLT, Int.reduceGE, Int.reduceGT, Int.reduceEq, Int.reduceNe, reduceCtorEq, ((AV.cells.eq_1 _).symm.trans or1.cells), or1.one]
    all_goals
      have hko := QK.nil q2
      simp only [ztC, List.cons_append, List.nil_append] at hko
      have c := fun hp hb => reval_calls b p fuel rs0 f.body r _ or1 hko.o hp hb
      simp only [ptr0, TermG.av, TermG.cs_eq] at c
      refine callX_by (c _ (ms_fz ..)) ?_
      clear c c1
      rintro r' hp2 ⟨rfl, rfl⟩
      simp only [go_sem, Nat.reduceEqDiff, Nat.reduceAdd, Nat.reduceSub, Nat.reduceLT, Nat.reduceMul, Nat.reduceBEq, Nat.reduceLeDiff, ↓reduceIte, Int.reduceToNat, Nat.reduceGT, Int.reduceLE, Int.reduceLT, Int.reduceGE, Int.reduceGT, Int.reduceEq, Int.reduceNe, reduceCtorEq, Hp.set_set]
      obtain ⟨HA, hHA⟩ : ∃ HA, HA = hp.setBlk b6 30 zeroRun := ⟨_, rfl⟩
      have hH6 : HA.blk b6 = some (30, zeroRun) := by rw [hHA]; simp [Hp.setBlk]
      obtain ⟨m0, hm0⟩ : ∃ m0, m0 = startG f inputs := ⟨_, rfl⟩
      have hfu : fuel = (fuel.toNat : Int) := by omega
      have hfn : fuel.toNat ≤ 20000 := by omega
      have hgo0 : Goes p fuel.toNat m0 := by
        rw [hm0]
        exact ⟨fun _ => start_ok hpr (List.mem_of_getElem? hf0) hlen, by simp [startG], Nat.zero_le _, fun _ => by simp [LenOk, startG, isEv]⟩
      have hrm0 : RM m0 := by rw [hm0]; exact rm_start hrg (List.mem_of_getElem? hf0) hin
      obtain ⟨s0, hs0⟩ : ∃ s0, s0 = ({ rs0 with t := f.body, ea := r, ka := .ref q2 [.v (.int .i64 0), .v (.int .i64 0), .v (.int .i64 0), .v (.string (bs [])), .v (.int .i64 0), .v (.slice none 0 0), .v (.slice none 0 0), .v (.pointer none), .v (.slice none 0 0), .v (.int .i64 0), .v (.pointer none)], term := true } : RS) := ⟨_, rfl⟩
      have hmac0 : RMac m0 s0 := by
        rw [hm0, hs0]
        exact ⟨rfl, rfl, fun _ => ⟨rfl, rfl, rfl, hr, hko⟩, fun how val h => by cases h⟩
      rw [← hs0]
      obtain ⟨rr, hrr, N, hN⟩ := ends_exist (ds := p.ds) (fs := p.fs) fuel.toNat _ _ m0 rfl rfl hgo0.le
      refine aw_loopX 93 (fun y : Nat × RS => [(6, ptr0 b6), (7, ptr0 b)]) (fun y => (HA.setSp ((3, 1, y.2.oh) :: hp.sp)).setBlk b 100 (y.2.cs p fuel))
        (fun y => y.1 ≤ N ∧ RMac (iterG p.ds p.fs fuel.toNat y.1 m0) y.2) (fun y => N - y.1) (0, s0) ⟨Nat.zero_le _, hmac0⟩
        (le_mkSl rfl (by rw [hHA, hs0]; exact ⟨fun _ _ h => h, fun _ _ h => h, by
          simp only [go_sem, Nat.reduceEqDiff, Nat.reduceAdd, Nat.reduceSub, Nat.reduceLT, Nat.reduceMul, Nat.reduceBEq, Nat.reduceLeDiff, ↓reduceIte, Int.reduceToNat, Nat.reduceGT, Int.reduceLE, Int.reduceLT, Int.reduceGE, Int.reduceGT, Int.reduceEq, Int.reduceNe, reduceCtorEq, rs0]
          exact .cons_cons _ (.cons _ (.cons _ (List.Sublist.refl _))), fun _ h => h⟩) (by simp [go_sem, ptr0])) ?_
      rintro ⟨i, s⟩ ⟨hi1, hmac⟩
      simp only at hi1 hmac
      have hgo := hgo0.iter hpr i
      have hrmi := riter (ds := p.ds) hrg fuel.toNat i hrm0
      obtain ⟨X, hX⟩ : ∃ X, X = (HA.setSp ((3, 1, s.oh) :: hp.sp)).setBlk b 100 (s.cs p fuel) := ⟨_, rfl⟩
      rw [← hX]
      have hXb : X.blk b = some (100, s.cs p fuel) := by rw [hX]; exact ms_fz ..
      have hXs : X.sp = (3, 1, s.oh) :: hp.sp := by rw [hX]; rfl
      have hX6 : X.blk b6 = some (30, zeroRun) := by rw [hX, Hp.setBlk_blk, if_neg nb6]; exact hH6
      have fin_le : ∀ cs, hp.le ((X.setBlk b 100 cs).delBlk b6) := fun cs => ⟨fun j x hj => by
        have h1 : j ≠ b6 := by rintro rfl; rw [hb60] at hj; cases hj
        have h2 : j ≠ b := by rintro rfl; rw [hb0] at hj; cases hj
        rw [hX, hHA, Hp.delBlk_blk, if_neg h1, Hp.setBlk_blk, if_neg h2, Hp.setBlk_blk, if_neg h2, Hp.setSp_blk, Hp.setBlk_blk, if_neg h1]
        exact hj, fun j x hj => by rw [hX, hHA]; exact hj, by rw [hX, hHA]; exact List.sublist_cons_self _ _, fun x hx => by rw [hX, hHA]; exact hx⟩
      have fin_le2 : hp.le (X.delBlk b6) := ⟨fun j x hj => by
        have h1 : j ≠ b6 := by rintro rfl; rw [hb60] at hj; cases hj
        have h2 : j ≠ b := by rintro rfl; rw [hb0] at hj; cases hj
        rw [hX, hHA, Hp.delBlk_blk, if_neg h1, Hp.setBlk_blk, if_neg h2, Hp.setSp_blk, Hp.setBlk_blk, if_neg h1]
        exact hj, fun j x hj => by rw [hX, hHA]; exact hj, by rw [hX, hHA]; exact List.sublist_cons_self _ _, fun x hx => by rw [hX, hHA]; exact hx⟩
      simp only [zeroRun] at hX6
      have hbm := hXb
      simp only [RS.cs] at hbm
      refine awp_sound (mu := [7, 15, 86]) _ _ _ ?_
      obtain ⟨m, hm⟩ : ∃ m, m = iterG p.ds p.fs fuel.toNat i m0 := ⟨_, rfl⟩
      rw [← hm] at hmac hgo hrmi
      have hnx : nextG p.ds p.fs fuel.toNat m = iterG p.ds p.fs fuel.toNat (i + 1) m0 := by rw [hm, iter_next]
      have hlo : s.outs.length ≤ 30000 := by rw [hmac.outs]; have := hgo.len; have := hgo.le; omega
      cases hfin : m.fin with
      | none =>
        obtain ⟨hov, hctl⟩ := hmac.ctl hfin
        have hiN : i + 1 ≤ N := by
          rcases Nat.lt_or_ge i N with h | h
          · exact h
          · exfalso
            have : iterG p.ds p.fs fuel.toNat i m0 = rr := by
              have e : i = N + (i - N) := by omega
              rw [e, iter_add, hN, iter_fin fuel.toNat _ hrr]
            rw [← hm] at this; rw [this] at hfin; rw [hfin] at hrr; cases hrr
        have back : ∀ {r : AV} {hp' : Hp}, RNextR p fuel b X hp.sp (nextG p.ds p.fs fuel.toNat m) r hp' → r = .tup [] ∧ ∃ s', hp' = (HA.setSp ((3, 1, s'.oh) :: hp.sp)).setBlk b 100 (s'.cs p fuel) ∧ RMac (iterG p.ds p.fs fuel.toNat (i + 1) m0) s' := by
          rintro r hp' ⟨rfl, s', rfl, hs'⟩
          rw [hnx] at hs'
          exact ⟨rfl, s', by rw [hX, set_sp_set]; rfl, hs'⟩
        cases hc : m.c with
        | gv v k =>
          rw [hc] at hctl
          simp only [go_sem, Nat.reduceEqDiff, Nat.reduceAdd, Nat.reduceSub, Nat.reduceLT, Nat.reduceMul, Nat.reduceBEq, Nat.reduceLeDiff, ↓reduceIte, Int.reduceToNat, Nat.reduceGT, Int.reduceLE, Int.reduceLT, Int.reduceGE, Int.reduceGT, Int.reduceEq, Int.reduceNe, reduceCtorEq, ptr0, hbm, hov, hctl.1]
          have c := rreceive_calls b p hpr fuel s hp.sp hctl (by have := hgo.ok hfin; rwa [hc] at this) (by have := hrmi.1; rwa [hc] at this) hlo X hXb hXs
          simp only [ptr0] at c
          refine callX_by c ?_
          intro r hp1 hR
          obtain ⟨rfl, s', rfl, hs'⟩ := back (routR_mac hXs hmac hfin hc hR)
          exact ⟨(i + 1, s'), by simp only; omega, ⟨hiN, hs'⟩, le_mkSl rfl (Hp.le_refl _) (by simp [go_sem, ptr0])⟩
        | ev t e k =>
          rw [hc] at hctl
          simp only [go_sem, Nat.reduceEqDiff, Nat.reduceAdd, Nat.reduceSub, Nat.reduceLT, Nat.reduceMul, Nat.reduceBEq, Nat.reduceLeDiff, ↓reduceIte, Int.reduceToNat, Nat.reduceGT, Int.reduceLE, Int.reduceLT, Int.reduceGE, Int.reduceGT, Int.reduceEq, Int.reduceNe, reduceCtorEq, ptr0, hbm, hov, hctl.1]
          refine draw_by (mu := [7, 15, 86]) (fun h => h.blk b = some (100, s.cs p fuel)) (.take 0 (.take 1 (.take 2 (.take 3 (.take 4 (.take 5 (.take 6 (.take 7 (.take 8 (.take 9 (.done))))))))))) (by decide +kernel) hXb (by decide +kernel) (by decide +kernel) ?_
          simp only [go_sem, Nat.reduceEqDiff, Nat.reduceAdd, Nat.reduceSub, Nat.reduceLT, Nat.reduceMul, Nat.reduceBEq, Nat.reduceLeDiff, ↓reduceIte, Int.reduceToNat, Nat.reduceGT, Int.reduceLE, Int.reduceLT, Int.reduceGE, Int.reduceGT, Int.reduceEq, Int.reduceNe, reduceCtorEq, ptr0, hbm, hov, hctl.1]
          refine ⟨fun h e => by rw [e]; simp only [go_sem, Nat.reduceEqDiff, Nat.reduceAdd, Nat.reduceSub, Nat.reduceLT, Nat.reduceMul, Nat.reduceBEq, Nat.reduceLeDiff, ↓reduceIte, Int.reduceToNat, Nat.reduceGT, Int.reduceLE, Int.reduceLT, Int.reduceGE, Int.reduceGT, Int.reduceEq, Int.reduceNe, reduceCtorEq, RS.cs], fun h e => by rw [e]; simp only [go_sem, Nat.reduceEqDiff, Nat.reduceAdd, Nat.reduceSub, Nat.reduceLT, Nat.reduceMul, Nat.reduceBEq, Nat.reduceLeDiff, ↓reduceIte, Int.reduceToNat, Nat.reduceGT, Int.reduceLE, Int.reduceLT, Int.reduceGE, Int.reduceGT, Int.reduceEq, Int.reduceNe, reduceCtorEq, RS.cs], ?_⟩
          refine brK_mk (fun g => ?_) (fun g => ?_) <;> simp only [go_sem, Nat.reduceEqDiff, Nat.reduceAdd, Nat.reduceSub, Nat.reduceLT, Nat.reduceMul, Nat.reduceBEq, Nat.reduceLeDiff, ↓reduceIte, Int.reduceToNat, Nat.reduceGT, Int.reduceLE, Int.reduceLT, Int.reduceGE, Int.reduceGT, Int.reduceEq, Int.reduceNe, reduceCtorEq, g]
          · have hs : m.steps = fuel.toNat := by have := hmac.steps; have := of_decide_eq_true g; omega
            have hns := next_spent (ds := p.ds) (fs := p.fs) hfin hc hs
            have c := rend_calls b p fuel s 1 0 X hXb
            simp only [ptr0] at c
            refine callX_by c ?_
            rintro r hp1 ⟨rfl, rfl⟩
            simp only [go_sem, Nat.reduceEqDiff, Nat.reduceAdd, Nat.reduceSub, Nat.reduceLT, Nat.reduceMul, Nat.reduceBEq, Nat.reduceLeDiff, ↓reduceIte, Int.reduceToNat, Nat.reduceGT, Int.reduceLE, Int.reduceLT, Int.reduceGE, Int.reduceGT, Int.reduceEq, Int.reduceNe, reduceCtorEq, RS.cs, nb6, Ne.symm nb6, hX6]
            refine ret_le (hp' := hp) (fin_le _) ⟨s.oh, 1, 0, s.outs, s.steps, { m with fin := some (1, 0) }, rfl, rfl, by rw [← hm0]; exact ⟨rfl, i + 1, by rw [← hnx, hns]⟩, rfl, hmac.outs, hmac.steps⟩
          · have hs : ¬ m.steps = fuel.toNat := by have := hmac.steps; have := of_decide_eq_false g; omega
            have hwu : IntKind.i64.wrap (s.steps + 1) = s.steps + 1 := IntWalk.i64_in _ (by have := hmac.steps; have := hgo.le; omega)
            simp only [go_sem, Nat.reduceEqDiff, Nat.reduceAdd, Nat.reduceSub, Nat.reduceLT, Nat.reduceMul, Nat.reduceBEq, Nat.reduceLeDiff, ↓reduceIte, Int.reduceToNat, Nat.reduceGT, Int.reduceLE, Int.reduceLT, Int.reduceGE, Int.reduceGT, Int.reduceEq, Int.reduceNe, reduceCtorEq, hbm, hwu]
            have c := fun Y hY => rstep_calls b p hpr fuel { s with steps := s.steps + 1 } hctl (by have := hgo.ok hfin; rwa [hc] at this) Y hY
            simp only [ptr0] at c
            refine callX_by (c _ (ms_fz ..)) ?_
            intro r hp1 hR
            obtain ⟨rfl, s', rfl, hs'⟩ := back (rstepR_mac hXs (fun cs => Hp.set_set ..) hmac hfin hc hs hR)
            exact ⟨(i + 1, s'), by simp only; omega, ⟨hiN, hs'⟩, le_mkSl rfl (Hp.le_refl _) (by simp [go_sem, ptr0])⟩
      | some x =>
        obtain ⟨how, val⟩ := x
        obtain ⟨hov, hh, hv⟩ := hmac.fin how val hfin
        simp only [go_sem, Nat.reduceEqDiff, Nat.reduceAdd, Nat.reduceSub, Nat.reduceLT, Nat.reduceMul, Nat.reduceBEq, Nat.reduceLeDiff, ↓reduceIte, Int.reduceToNat, Nat.reduceGT, Int.reduceLE, Int.reduceLT, Int.reduceGE, Int.reduceGT, Int.reduceEq, Int.reduceNe, reduceCtorEq, ptr0, hbm, hov, hX6]
        refine ret_le (hp' := hp) fin_le2 ⟨s.oh, s.how, s.val, s.outs, s.steps, m, rfl, rfl, by rw [← hm0]; exact ⟨by rw [hfin]; rfl, i, hm.symm⟩, by rw [hh, hv]; exact hfin, hmac.outs, hmac.steps⟩
end Go.Proofs.YtkoachnlimebaaaGreatDoor
