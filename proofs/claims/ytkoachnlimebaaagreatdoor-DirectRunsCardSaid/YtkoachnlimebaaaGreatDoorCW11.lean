/- Direct evaluation: an application binds what needs no evaluation. -/
import Derived.Test.YtkoachnlimebaaaGreatDoorCW5
import Derived.Test.YtkoachnlimebaaaGreatDoorCAL44
set_option linter.unusedSimpArgs false
set_option linter.unusedVariables false
set_option maxRecDepth 20000
set_option maxHeartbeats 4000000
namespace Go.Proofs.YtkoachnlimebaaaGreatDoor
open Go.AL

theorem applyG_step {ds : List DeclG} {fs : List FunG} {t : TermG} {e : EnvG} {got : List BndG} {k : FrmG} {ty : Int} {a : TermG} (h1 : (typesG ds fs t)[got.length]? = some ty) (h2 : t.args[got.length]? = some a) :
    applyG ds fs t e got k = if plusB ds ty = true then .ev a e (.app t e got k) else applyG ds fs t e (got ++ [.thunk a e]) k := by
  obtain ⟨g1, g2⟩ := List.getElem?_eq_some_iff.1 h1
  obtain ⟨g3, g4⟩ := List.getElem?_eq_some_iff.1 h2
  rw [applyG, List.drop_eq_getElem_cons g1, List.drop_eq_getElem_cons g3, goG, g2, g4, applyG, List.length_append, List.length_singleton]
theorem applyG_end {ds : List DeclG} {fs : List FunG} {t : TermG} {e : EnvG} {got : List BndG} {k : FrmG} (h : (typesG ds fs t).length ≤ got.length) : applyG ds fs t e got k = performG fs t e got k := by
  rw [applyG, List.drop_of_length_le h, goG]
  intro _ _ _ _ h; cases h
theorem types_len {p : ProgG} {V L : Bytes → Bool} {t : TermG} (ok : AppOk p V L t) : (typesG p.ds p.fs t).length ≤ 6 := by
  have hpr := runp_ok ok.pr
  have hn := ok.nd
  rcases ok.ap with o | o | o | o | o
  · simp [typesG, o]
  · obtain ⟨d, x, _, _, hd, _, _, hx, hxa⟩ := app_xtor hn (.inl o)
    rw [typesG, if_pos (.inl o), hxa]
    exact Nat.le_trans (by rw [prodsX, List.length_map]; exact List.length_filter_le _ _) (hpr.hsm d (List.mem_of_getElem? hd) x (List.mem_of_getElem? hx))
  · obtain ⟨d, x, _, _, hd, _, _, hx, hxa⟩ := app_xtor hn (.inr o)
    rw [typesG, if_pos (.inr o), hxa]
    exact Nat.le_trans (by rw [prodsX, List.length_map]; exact List.length_filter_le _ _) (hpr.hsm d (List.mem_of_getElem? hd) x (List.mem_of_getElem? hx))
  · simp [typesG, o]
  · obtain ⟨f, hf, hfl⟩ := (node_arity hn ok.ap).2.2.2 o
    rw [hfl]; exact hpr.hfp f (List.mem_of_getElem? hf)
theorem apply_calls (b : Nat) (p : ProgG) (fuel : Int) (s : MS) (t : TermG) {V L : Bytes → Bool} (ok : AppOk p V L t) {e : EnvG} {ea : AV} (he : PE e ea) {got : List BndG} (h : Value) {gs : List AV} (hg : PBs got gs) {k : FrmG} {ka : AV} (hk : PK k ka)
    (hl : got.length ≤ (typesG p.ds p.fs t).length) (hi : t.op = 2 → ∀ b, b ∈ got → isIntB b = true) (hp : Hp) (hb : hp.blk b = some (75, s.cs p fuel)) :
    ACalls Tryz.prog 82 [ptr0 b, t.av, ea, .lst 2 h gs, ka] hp (MvR p fuel b hp s (applyG p.ds p.fs t e got k)) := by
  have hpr := runp_ok ok.pr
  have hdl := hpr.hdl
  have hn := ok.nd
  have hb0 := hb
  obtain ⟨n1, n2, n3, n4⟩ := node_arity hn ok.ap
  refine acalls_of Tryz.func82 rfl (by decide +kernel) (awp_sound (mu := []) _ _ _ ?_)
  simp only [go_sem, Nat.reduceEqDiff, Nat.reduceAdd, Nat.reduceSub, Nat.reduceLT, Nat.reduceMul, Nat.reduceBEq, Nat.reduceLeDiff, ↓reduceIte, Int.reduceToNat, Nat.reduceGT, Int.reduceLE, Int.reduceLT, Int.reduceGE, Int.reduceGT, Int.reduceEq, Int.reduceNe, reduceCtorEq, TermG.av, TermG.cs_eq, ptr0]
  intro q
  have c := types_calls b p fuel s t ok hp hb0
  simp only [TermG.av, TermG.cs_eq, ptr0] at c
  refine callX_by c ?_
  clear c
  rintro r hp' ⟨h2, rfl, rfl⟩
  simp only [go_sem, Nat.reduceEqDiff, Nat.reduceAdd, Nat.reduceSub, Nat.reduceLT, Nat.reduceMul, Nat.reduceBEq, Nat.reduceLeDiff, ↓reduceIte, Int.reduceToNat, Nat.reduceGT, Int.reduceLE, Int.reduceLT, Int.reduceGE, Int.reduceGT, Int.reduceEq, Int.reduceNe, reduceCtorEq]
  refine aw_loopX 68 (fun y : List BndG × List AV × Value => [(0, ptr0 b), (2, ea), (3, .lst 2 y.2.2 y.2.1), (4, ka), (6, .ref q [.v (.int .i64 t.op), .v (.int .i64 t.n), .v (.string (bs t.name)), .v (.int .i64 t.ty), .lst 6 t.ha (t.args.map TermG.av), .lst 7 t.hc (t.cls.map ClauseG.av)]), (10, intsAV h2 (typesG p.ds p.fs t))])
    (fun _ => hp') (fun y => PBs y.1 y.2.1 ∧ y.1.length ≤ (typesG p.ds p.fs t).length ∧ (t.op = 2 → ∀ b, b ∈ y.1 → isIntB b = true) ∧ applyG p.ds p.fs t e y.1 k = applyG p.ds p.fs t e got k) (fun y => (typesG p.ds p.fs t).length - y.1.length) (got, gs, h) ⟨hg, hl, hi, rfl⟩
    (le_mkSl rfl (Hp.le_refl _) (by simp [go_sem, ptr0])) ?_
  rintro ⟨got, gs, h⟩ ⟨hg, hl, hi, hap⟩
  simp only at hg hl hi hap
  have hal := hg.len
  refine awp_sound (mu := []) _ _ _ ?_
  simp only [go_sem, Nat.reduceEqDiff, Nat.reduceAdd, Nat.reduceSub, Nat.reduceLT, Nat.reduceMul, Nat.reduceBEq, Nat.reduceLeDiff, ↓reduceIte, Int.reduceToNat, Nat.reduceGT, Int.reduceLE, Int.reduceLT, Int.reduceGE, Int.reduceGT, Int.reduceEq, Int.reduceNe, reduceCtorEq, ptr0, intsAV, List.length_map]
  refine brK_mk (fun g => ?_) (fun g => ?_) <;> simp only [go_sem, Nat.reduceEqDiff, Nat.reduceAdd, Nat.reduceSub, Nat.reduceLT, Nat.reduceMul, Nat.reduceBEq, Nat.reduceLeDiff, ↓reduceIte, Int.reduceToNat, Nat.reduceGT, Int.reduceLE, Int.reduceLT, Int.reduceGE, Int.reduceGT, Int.reduceEq, Int.reduceNe, reduceCtorEq, g]
  · have hlt : got.length < (typesG p.ds p.fs t).length := by have := of_decide_eq_true g; rw [hal] at this; omega
    obtain ⟨ty, hty⟩ := someAt (typesG p.ds p.fs t) got.length hlt
    obtain ⟨a, ha⟩ := someAt t.args got.length (by omega)
    have hstep := applyG_step (e := e) (k := k) hty ha
    have htr := types_in ok.pr hn ty (List.mem_of_getElem? hty)
    simp only [go_sem, Nat.reduceEqDiff, Nat.reduceAdd, Nat.reduceSub, Nat.reduceLT, Nat.reduceMul, Nat.reduceBEq, Nat.reduceLeDiff, ↓reduceIte, Int.reduceToNat, Nat.reduceGT, Int.reduceLE, Int.reduceLT, Int.reduceGE, Int.reduceGT, Int.reduceEq, Int.reduceNe, reduceCtorEq, hal, mapAt TermG.av _ _ _ ha, TermG.av, TermG.cs_eq]
    intro v hv
    have hds := fun T cs => Hp.del_set _ _ T cs hv.1
    simp only [go_sem, Nat.reduceEqDiff, Nat.reduceAdd, Nat.reduceSub, Nat.reduceLT, Nat.reduceMul, Nat.reduceBEq, Nat.reduceLeDiff, ↓reduceIte, Int.reduceToNat, Nat.reduceGT, Int.reduceLE, Int.reduceLT, Int.reduceGE, Int.reduceGT, Int.reduceEq, Int.reduceNe, reduceCtorEq, hds]
    have hbm := hb0
    simp only [MS.cs] at hbm
    refine draw_by (mu := []) (fun h => h.blk b = some (75, s.cs p fuel)) (.take 0 (.take 1 (.take 2 (.take 3 (.take 4 (.take 5 (.take 6 (.take 7 (.take 8 (.take 9 (.br 10 (.done) (.stop)))))))))))) (by decide +kernel) hb0 (by decide +kernel) (by decide +kernel) ?_
    simp only [go_sem, Nat.reduceEqDiff, Nat.reduceAdd, Nat.reduceSub, Nat.reduceLT, Nat.reduceMul, Nat.reduceBEq, Nat.reduceLeDiff, ↓reduceIte, Int.reduceToNat, Nat.reduceGT, Int.reduceLE, Int.reduceLT, Int.reduceGE, Int.reduceGT, Int.reduceEq, Int.reduceNe, reduceCtorEq, hbm, hal, mapAt iv _ _ _ hty, iv]
    refine ⟨fun h e => by rw [e]; simp only [go_sem, Nat.reduceEqDiff, Nat.reduceAdd, Nat.reduceSub, Nat.reduceLT, Nat.reduceMul, Nat.reduceBEq, Nat.reduceLeDiff, ↓reduceIte, Int.reduceToNat, Nat.reduceGT, Int.reduceLE, Int.reduceLT, Int.reduceGE, Int.reduceGT, Int.reduceEq, Int.reduceNe, reduceCtorEq, MS.cs], ?_⟩
    refine callX_by (plus_calls p.hd p.ds ty htr.1 htr.2 _) ?_
    rintro r hp1 ⟨rfl, rfl⟩
    refine ⟨hb0, ?_⟩
    have ea1 := ((AV.cells.eq_1 _).symm.trans he.o.cells); have ea2 := he.o.one
    have ka1 := ((AV.cells.eq_1 _).symm.trans hk.o.cells); have ka2 := hk.o.one
    cases hpl : plusB p.ds ty with
    | true =>
      simp only [go_sem, Nat.reduceEqDiff, Nat.reduceAdd, Nat.reduceSub, Nat.reduceLT, Nat.reduceMul, Nat.reduceBEq, Nat.reduceLeDiff, ↓reduceIte, Int.reduceToNat, Nat.reduceGT, Int.reduceLE, Int.reduceLT, Int.reduceGE, Int.reduceGT, Int.reduceEq, Int.reduceNe, reduceCtorEq, hpl, ea1, ea2, ka1, ka2]
      intro q2
      have c := meval_calls b p fuel s a ea (.ref q2 [.ifc 217 (.agg []), .v (.int .i64 t.op), .v (.int .i64 t.n), .v (.string (bs t.name)), .v (.int .i64 t.ty), .lst 6 t.ha (t.args.map TermG.av), .lst 7 t.hc (t.cls.map ClauseG.av), ea, .lst 2 h gs, ka]) he.o ⟨rfl, rfl⟩ hp1 hb0
      simp only [ptr0, TermG.av, TermG.cs_eq] at c
      refine callX_by c ?_
      clear c
      rintro r hp2 ⟨rfl, rfl⟩
      refine ret_same ⟨rfl, _, rfl, rfl, rfl, rfl, rfl, rfl, rfl, ?_⟩
      rw [← hap, hstep, if_pos hpl]
      exact ⟨rfl, rfl, he, .app _ _ _ _ _ _ _ _ _ he hg hk⟩
    | false =>
      simp only [go_sem, Nat.reduceEqDiff, Nat.reduceAdd, Nat.reduceSub, Nat.reduceLT, Nat.reduceMul, Nat.reduceBEq, Nat.reduceLeDiff, ↓reduceIte, Int.reduceToNat, Nat.reduceGT, Int.reduceLE, Int.reduceLT, Int.reduceGE, Int.reduceGT, Int.reduceEq, Int.reduceNe, reduceCtorEq, hpl]
      rw [if_neg (by rw [hpl]; decide)] at hstep
      have hno2 : t.op = 2 → ∀ b, b ∈ got ++ [BndG.thunk a e] → isIntB b = true := fun o2 => by
        exfalso
        have hz : ∀ x ∈ typesG p.ds p.fs t, x = 0 := by simp [typesG, o2]
        have := hz ty (List.mem_of_getElem? hty)
        rw [this] at hpl; simp [plusB] at hpl
      have hl6 : (typesG p.ds p.fs t).length ≤ 6 := types_len ok
      refine draw_by (mu := []) (fun _ => True) (.take 0 (.take 1 (.take 2 (.take 3 (.take 4 (.take 6 (.take 7 (.br 5 (.br 8 (.br 9 (.br 10 (.br 11 (.br 12 (.take 13 (.done)) (.stop)) (.stop)) (.stop)) (.stop)) (.stop)) (.br 8 (.br 5 (.br 9 (.br 10 (.br 11 (.br 12 (.take 13 (.done)) (.stop)) (.stop)) (.stop)) (.stop)) (.br 9 (.br 5 (.br 10 (.br 11 (.br 12 (.take 13 (.done)) (.stop)) (.stop)) (.stop)) (.br 10 (.br 5 (.br 11 (.br 12 (.take 13 (.done)) (.stop)) (.stop)) (.br 11 (.br 5 (.br 12 (.take 13 (.done)) (.stop)) (.stop)) (.stop))) (.stop))) (.stop))) (.stop)))))))))) (by decide +kernel) trivial (by decide +kernel) (by decide +kernel) ?_
      simp only [go_sem, Nat.reduceEqDiff, Nat.reduceAdd, Nat.reduceSub, Nat.reduceLT, Nat.reduceMul, Nat.reduceBEq, Nat.reduceLeDiff, ↓reduceIte, Int.reduceToNat, Nat.reduceGT, Int.reduceLE, Int.reduceLT, Int.reduceGE, Int.reduceGT, Int.reduceEq, Int.reduceNe, reduceCtorEq, hal, ea1, ea2]
      repeat' (first | exact rfl | with_reducible intro _ | with_reducible refine And.intro ?_ ?_)
      all_goals first | (simp_all; done) | skip
      all_goals first
        | (rename_i a' p1 hd'
           refine appendC_by (ax := a') (n := gs.length) (h2 := hd') (xs := gs) (ys := [.agg [.v .nilIface, .ref p1 [.v (.int .i64 a.op), .v (.int .i64 a.n), .v (.string (bs a.name)), .v (.int .i64 a.ty), .lst 6 a.ha (a.args.map TermG.av), .lst 7 a.hc (a.cls.map ClauseG.av), ea]]]) (a := .lst 2 (.slice a' gs.length gs.length) gs) (b := .lst 2 hd' [.agg [.v .nilIface, .ref p1 [.v (.int .i64 a.op), .v (.int .i64 a.n), .v (.string (bs a.name)), .v (.int .i64 a.ty), .lst 6 a.ha (a.args.map TermG.av), .lst 7 a.hc (a.cls.map ClauseG.av), ea]]]) Tryz.k155 Tryz.s81 Tryz.y81 Tryz.z81 rfl (by decide)
             (by simp [go_sem, ← hal]) (Cast.refl _) (by simp [go_sem]) (Cast.refl _) (by simp) (by simp [maxLen]; omega) (by simp; omega) (by simp [go_sem]) (fun h' => ?_)
           simp only [go_sem, Nat.reduceEqDiff, Nat.reduceAdd, Nat.reduceSub, Nat.reduceLT, Nat.reduceMul, Nat.reduceBEq, Nat.reduceLeDiff, ↓reduceIte, Int.reduceToNat, Nat.reduceGT, Int.reduceLE, Int.reduceLT, Int.reduceGE, Int.reduceGT, Int.reduceEq, Int.reduceNe, reduceCtorEq]
           exact ⟨(got ++ [.thunk a e], _, h'), by simp only [List.length_append, List.length_singleton]; omega, ⟨hg.snoc (.thunk a e ea p1 he), by simp only [List.length_append, List.length_singleton]; omega, fun o2 => hno2 o2, by rw [← hstep]; exact hap⟩, le_mkSl rfl ⟨fun _ _ h => h, fun _ _ h => h, (List.sublist_cons_self _ _).trans (List.sublist_cons_self _ _), fun _ h => h⟩ (by simp [go_sem, ptr0, intsAV])⟩)
        | (rename_i p1 a' hd'
           refine appendC_by (ax := a') (n := gs.length) (h2 := hd') (xs := gs) (ys := [.agg [.v .nilIface, .ref p1 [.v (.int .i64 a.op), .v (.int .i64 a.n), .v (.string (bs a.name)), .v (.int .i64 a.ty), .lst 6 a.ha (a.args.map TermG.av), .lst 7 a.hc (a.cls.map ClauseG.av), ea]]]) (a := .lst 2 (.slice a' gs.length gs.length) gs) (b := .lst 2 hd' [.agg [.v .nilIface, .ref p1 [.v (.int .i64 a.op), .v (.int .i64 a.n), .v (.string (bs a.name)), .v (.int .i64 a.ty), .lst 6 a.ha (a.args.map TermG.av), .lst 7 a.hc (a.cls.map ClauseG.av), ea]]]) Tryz.k155 Tryz.s81 Tryz.y81 Tryz.z81 rfl (by decide)
             (by simp [go_sem, ← hal]) (Cast.refl _) (by simp [go_sem]) (Cast.refl _) (by simp) (by simp [maxLen]; omega) (by simp; omega) (by simp [go_sem]) (fun h' => ?_)
           simp only [go_sem, Nat.reduceEqDiff, Nat.reduceAdd, Nat.reduceSub, Nat.reduceLT, Nat.reduceMul, Nat.reduceBEq, Nat.reduceLeDiff, ↓reduceIte, Int.reduceToNat, Nat.reduceGT, Int.reduceLE, Int.reduceLT, Int.reduceGE, Int.reduceGT, Int.reduceEq, Int.reduceNe, reduceCtorEq]
           exact ⟨(got ++ [.thunk a e], _, h'), by simp only [List.length_append, List.length_singleton]; omega, ⟨hg.snoc (.thunk a e ea p1 he), by simp only [List.length_append, List.length_singleton]; omega, fun o2 => hno2 o2, by rw [← hstep]; exact hap⟩, le_mkSl rfl ⟨fun _ _ h => h, fun _ _ h => h, (List.sublist_cons_self _ _).trans (List.sublist_cons_self _ _), fun _ h => h⟩ (by simp [go_sem, ptr0, intsAV])⟩)
        | (rename_i p1 hd' a'
           refine appendC_by (ax := a') (n := gs.length) (h2 := hd') (xs := gs) (ys := [.agg [.v .nilIface, .ref p1 [.v (.int .i64 a.op), .v (.int .i64 a.n), .v (.string (bs a.name)), .v (.int .i64 a.ty), .lst 6 a.ha (a.args.map TermG.av), .lst 7 a.hc (a.cls.map ClauseG.av), ea]]]) (a := .lst 2 (.slice a' gs.length gs.length) gs) (b := .lst 2 hd' [.agg [.v .nilIface, .ref p1 [.v (.int .i64 a.op), .v (.int .i64 a.n), .v (.string (bs a.name)), .v (.int .i64 a.ty), .lst 6 a.ha (a.args.map TermG.av), .lst 7 a.hc (a.cls.map ClauseG.av), ea]]]) Tryz.k155 Tryz.s81 Tryz.y81 Tryz.z81 rfl (by decide)
             (by simp [go_sem, ← hal]) (Cast.refl _) (by simp [go_sem]) (Cast.refl _) (by simp) (by simp [maxLen]; omega) (by simp; omega) (by simp [go_sem]) (fun h' => ?_)
           simp only [go_sem, Nat.reduceEqDiff, Nat.reduceAdd, Nat.reduceSub, Nat.reduceLT, Nat.reduceMul, Nat.reduceBEq, Nat.reduceLeDiff, ↓reduceIte, Int.reduceToNat, Nat.reduceGT, Int.reduceLE, Int.reduceLT, Int.reduceGE, Int.reduceGT, Int.reduceEq, Int.reduceNe, reduceCtorEq]
           exact ⟨(got ++ [.thunk a e], _, h'), by simp only [List.length_append, List.length_singleton]; omega, ⟨hg.snoc (.thunk a e ea p1 he), by simp only [List.length_append, List.length_singleton]; omega, fun o2 => hno2 o2, by rw [← hstep]; exact hap⟩, le_mkSl rfl ⟨fun _ _ h => h, fun _ _ h => h, (List.sublist_cons_self _ _).trans (List.sublist_cons_self _ _), fun _ h => h⟩ (by simp [go_sem, ptr0, intsAV])⟩)
  · have hge : (typesG p.ds p.fs t).length ≤ got.length := by have := of_decide_eq_false g; rw [hal] at this; omega
    have c := perform_calls b p fuel s t ok he h hg hk (by omega) hi hp' hb0
    simp only [TermG.av, TermG.cs_eq, ptr0] at c
    refine callX_by c ?_
    clear c
    intro r hp2 hR
    rw [← applyG_end hge, hap] at hR
    obtain ⟨rfl, s', rfl, hR⟩ := hR
    exact ret_same ⟨rfl, s', rfl, hR⟩
end Go.Proofs.YtkoachnlimebaaaGreatDoor
/- Direct evaluation: continuations receive a value. -/
set_option linter.unusedSimpArgs false
set_option linter.unusedVariables false
set_option maxRecDepth 20000
set_option maxHeartbeats 4000000
namespace Go.Proofs.YtkoachnlimebaaaGreatDoor
open Go.AL

/-- What a continuation makes of a value. -/
def OutR (p : ProgG) (fuel : Int) (b : Nat) (hp : Hp) (l2 : List (TypeId × Nat × Value)) (s : MS) (o : OutG) (r : AV) (hp' : Hp) : Prop :=
  match o with
  | .go c => MvR p fuel b hp s c r hp'
  | .emit n c => r = .tup [] ∧ ∃ s' : MS, hp' = (hp.setSp ((3, 1, s'.oh) :: l2)).setBlk b 75 (s'.cs p fuel) ∧ s'.how = s.how ∧ s'.val = s.val ∧ s'.outs = s.outs ++ [n] ∧ s'.steps = s.steps ∧ s'.over = s.over ∧ CtlP c s'
  | .fin how val => r = .tup [] ∧ hp' = hp.setBlk b 75 (({ s with how := how, val := val, over := true } : MS).cs p fuel)
theorem PV.ints {v : ValG} {va : AV} (h : PV v va) : (∃ n, v = .int n ∧ va = .ifc 3 (.v (.int .i64 n))) ∨ (isIntV v = false ∧ ∃ u a, u ≠ 3 ∧ va = .ifc u a) := by
  cases h with
  | int n => exact .inl ⟨n, rfl, rfl⟩
  | con ty n args h as' ha => exact .inr ⟨rfl, _, _, by decide, rfl⟩
  | obj t e ea he => exact .inr ⟨rfl, _, _, by decide, rfl⟩
theorem recv_app_calls (b : Nat) (p : ProgG) (fuel : Int) (s : MS) (l2 : List (TypeId × Nat × Value)) {v : ValG} {va : AV} (hv : PV v va) {t : TermG} {V L : Bytes → Bool} (ok : AppOk p V L t) {e : EnvG} {got : List BndG} {k : FrmG} {fa : AV} (hf : PK (.app t e got k) fa)
    (hl : got.length < (typesG p.ds p.fs t).length) (hi : t.op = 2 → ∀ b, b ∈ got → isIntB b = true) (hp : Hp) (hb : hp.blk b = some (75, s.cs p fuel)) :
    ACalls Tryz.prog 270 [.agg [], ptr0 b, fa, va] hp (OutR p fuel b hp l2 s (passG p.ds p.fs v (.app t e got k))) := by
  have hn := ok.nd
  have hl6 : (typesG p.ds p.fs t).length ≤ 6 := types_len ok
  cases hf with | app _ _ _ _ ea ka h q gs he hg hk =>
  have hal := hg.len
  have ea1 := ((AV.cells.eq_1 _).symm.trans he.o.cells); have ea2 := he.o.one
  have ka1 := ((AV.cells.eq_1 _).symm.trans hk.o.cells); have ka2 := hk.o.one
  have va1 := ((AV.cells.eq_1 _).symm.trans hv.o.cells); have va2 := hv.o.one
  have fin : ∀ hp' : Hp, hp'.blk b = some (75, s.cs p fuel) → ACalls Tryz.prog 79 [.v (.pointer (some ⟨b, 0, none⟩)), .v (.int .i64 2), .v (.int .i64 0)] hp' (fun r hp2 => r = .tup [] ∧ hp2 = hp'.setBlk b 75 (({ s with how := 2, val := 0, over := true } : MS).cs p fuel)) := fun hp' h => mend_calls b p fuel s 2 0 hp' h
  refine acalls_of Tryz.func270 rfl (by decide +kernel) (awp_sound (mu := []) _ _ _ ?_)
  simp only [go_sem, Nat.reduceEqDiff, Nat.reduceAdd, Nat.reduceSub, Nat.reduceLT, Nat.reduceMul, Nat.reduceBEq, Nat.reduceLeDiff, ↓reduceIte, Int.reduceToNat, Nat.reduceGT, Int.reduceLE, Int.reduceLT, Int.reduceGE, Int.reduceGT, Int.reduceEq, Int.reduceNe, reduceCtorEq, ptr0]
  intro q0
  have c := fun (h' : Value) (hp' : Hp) hb' (hii : t.op = 2 → isIntV v = true) => apply_calls b p fuel s t ok he h' (hg.snoc (.val v _ hv)) hk (by simp only [List.length_append, List.length_singleton]; omega) (fun o2 x hx => by
    rcases List.mem_append.1 hx with hx | hx
    · exact hi o2 x hx
    · rw [List.mem_singleton.1 hx]; exact hii o2) hp' hb'
  simp only [ptr0, TermG.av, TermG.cs_eq] at c
  rcases hv.ints with ⟨n, rfl, rfl⟩ | ⟨hni, u, a, hu, rfl⟩
  · have c := fun h' hp' hb' => c h' hp' hb' (fun _ => rfl)
    refine assertYes_by (a := .v (.int .i64 n)) (by decide +kernel) (by simp [go_sem]) (by simp [go_sem]) ?_
    simp only [go_sem, Nat.reduceEqDiff, Nat.reduceAdd, Nat.reduceSub, Nat.reduceLT, Nat.reduceMul, Nat.reduceBEq, Nat.reduceLeDiff, ↓reduceIte, Int.reduceToNat, Nat.reduceGT, Int.reduceLE, Int.reduceLT, Int.reduceGE, Int.reduceGT, Int.reduceEq, Int.reduceNe, reduceCtorEq]
    refine brK_mk (fun g => ?_) (fun g => ?_) <;> simp only [go_sem, Nat.reduceEqDiff, Nat.reduceAdd, Nat.reduceSub, Nat.reduceLT, Nat.reduceMul, Nat.reduceBEq, Nat.reduceLeDiff, ↓reduceIte, Int.reduceToNat, Nat.reduceGT, Int.reduceLE, Int.reduceLT, Int.reduceGE, Int.reduceGT, Int.reduceEq, Int.reduceNe, reduceCtorEq, g]
    · refine draw_by (mu := []) (fun _ => True) (.take 0 (.take 1 (.take 2 (.take 3 (.take 4 (.take 5 (.take 6 (.take 7 (.take 8 (.take 9 (.take 10 (.take 11 (.take 12 (.take 13 (.take 14 (.take 15 (.take 16 (.take 17 (.take 18 (.take 19 (.take 20 (.take 21 (.take 22 (.take 24 (.take 28 (.take 29 (.take 30 (.take 31 (.br 23 (.br 25 (.br 26 (.br 27 (.br 32 (.done) (.stop)) (.stop)) (.stop)) (.stop)) (.br 25 (.br 23 (.br 26 (.br 27 (.br 32 (.done) (.stop)) (.stop)) (.stop)) (.br 26 (.br 23 (.br 27 (.br 32 (.done) (.stop)) (.stop)) (.stop)) (.stop))) (.stop))))))))))))))))))))))))))))))) (by decide +kernel) trivial (by decide +kernel) (by decide +kernel) ?_
      simp (maxSteps := 4000000) only [go_sem, Nat.reduceEqDiff, Nat.reduceAdd, Nat.reduceSub, Nat.reduceLT, Nat.reduceMul, Nat.reduceBEq, Nat.reduceLeDiff, ↓reduceIte, Int.reduceToNat, Nat.reduceGT, Int.reduceLE, Int.reduceLT, Int.reduceGE, Int.reduceGT, Int.reduceEq, Int.reduceNe, reduceCtorEq, hal, ea1, ea2, ka1, ka2]
      repeat' (first | exact rfl | with_reducible intro _ | with_reducible refine And.intro ?_ ?_)
      all_goals first | (simp_all; done) | skip
      all_goals first
        | (rename_i a' hd'
           refine appendC_by (ax := a') (n := gs.length) (h2 := hd') (xs := gs) (ys := [.agg [.ifc 3 (.v (.int .i64 n)), .v (.pointer none)]]) (a := .lst 2 (.slice a' gs.length gs.length) gs) (b := .lst 2 hd' [.agg [.ifc 3 (.v (.int .i64 n)), .v (.pointer none)]]) Tryz.k155 Tryz.s81 Tryz.y81 Tryz.z81 rfl (by decide)
             (by simp [go_sem, ← hal]) (Cast.refl _) (by simp [go_sem]) (Cast.refl _) (by simp) (by simp [maxLen]; omega) (by simp; omega) (by simp [go_sem]) (fun h' => ?_))
        | (rename_i hd' a'
           refine appendC_by (ax := a') (n := gs.length) (h2 := hd') (xs := gs) (ys := [.agg [.ifc 3 (.v (.int .i64 n)), .v (.pointer none)]]) (a := .lst 2 (.slice a' gs.length gs.length) gs) (b := .lst 2 hd' [.agg [.ifc 3 (.v (.int .i64 n)), .v (.pointer none)]]) Tryz.k155 Tryz.s81 Tryz.y81 Tryz.z81 rfl (by decide)
             (by simp [go_sem, ← hal]) (Cast.refl _) (by simp [go_sem]) (Cast.refl _) (by simp) (by simp [maxLen]; omega) (by simp; omega) (by simp [go_sem]) (fun h' => ?_))
      all_goals
        simp only [go_sem, Nat.reduceEqDiff, Nat.reduceAdd, Nat.reduceSub, Nat.reduceLT, Nat.reduceMul, Nat.reduceBEq, Nat.reduceLeDiff, ↓reduceIte, Int.reduceToNat, Nat.reduceGT, Int.reduceLE, Int.reduceLT, Int.reduceGE, Int.reduceGT, Int.reduceEq, Int.reduceNe, reduceCtorEq]
        refine callX_by (c h' _ hb) ?_
        rintro r hp2 ⟨rfl, s', rfl, hR⟩
        refine ret_le (hp' := hp.setBlk b 75 (s'.cs p fuel)) ⟨fun _ _ h => h, fun _ _ h => h, (List.sublist_cons_self _ _).trans (List.sublist_cons_self _ _), fun _ h => h⟩ ?_
        show OutR p fuel b hp l2 s (passG p.ds p.fs (.int n) (.app t e got k)) _ _
        rw [passG, if_neg (fun hh => by cases hh.2)]
        exact ⟨rfl, s', rfl, hR⟩
    · refine draw_by (mu := []) (fun _ => True) (.take 0 (.take 1 (.take 2 (.take 3 (.take 4 (.take 5 (.take 6 (.take 7 (.take 8 (.take 9 (.take 10 (.take 11 (.take 12 (.take 13 (.take 14 (.take 15 (.take 16 (.take 17 (.take 18 (.take 19 (.take 20 (.take 21 (.take 22 (.take 24 (.take 28 (.take 29 (.take 30 (.take 31 (.br 23 (.br 25 (.br 26 (.br 27 (.br 32 (.done) (.stop)) (.stop)) (.stop)) (.stop)) (.br 25 (.br 23 (.br 26 (.br 27 (.br 32 (.done) (.stop)) (.stop)) (.stop)) (.br 26 (.br 23 (.br 27 (.br 32 (.done) (.stop)) (.stop)) (.stop)) (.stop))) (.stop))))))))))))))))))))))))))))))) (by decide +kernel) trivial (by decide +kernel) (by decide +kernel) ?_
      simp (maxSteps := 4000000) only [go_sem, Nat.reduceEqDiff, Nat.reduceAdd, Nat.reduceSub, Nat.reduceLT, Nat.reduceMul, Nat.reduceBEq, Nat.reduceLeDiff, ↓reduceIte, Int.reduceToNat, Nat.reduceGT, Int.reduceLE, Int.reduceLT, Int.reduceGE, Int.reduceGT, Int.reduceEq, Int.reduceNe, reduceCtorEq, hal, ea1, ea2, ka1, ka2]
      repeat' (first | exact rfl | with_reducible intro _ | with_reducible refine And.intro ?_ ?_)
      all_goals first | (simp_all; done) | skip
      all_goals first
        | (rename_i a' hd'
           refine appendC_by (ax := a') (n := gs.length) (h2 := hd') (xs := gs) (ys := [.agg [.ifc 3 (.v (.int .i64 n)), .v (.pointer none)]]) (a := .lst 2 (.slice a' gs.length gs.length) gs) (b := .lst 2 hd' [.agg [.ifc 3 (.v (.int .i64 n)), .v (.pointer none)]]) Tryz.k155 Tryz.s81 Tryz.y81 Tryz.z81 rfl (by decide)
             (by simp [go_sem, ← hal]) (Cast.refl _) (by simp [go_sem]) (Cast.refl _) (by simp) (by simp [maxLen]; omega) (by simp; omega) (by simp [go_sem]) (fun h' => ?_))
        | (rename_i hd' a'
           refine appendC_by (ax := a') (n := gs.length) (h2 := hd') (xs := gs) (ys := [.agg [.ifc 3 (.v (.int .i64 n)), .v (.pointer none)]]) (a := .lst 2 (.slice a' gs.length gs.length) gs) (b := .lst 2 hd' [.agg [.ifc 3 (.v (.int .i64 n)), .v (.pointer none)]]) Tryz.k155 Tryz.s81 Tryz.y81 Tryz.z81 rfl (by decide)
             (by simp [go_sem, ← hal]) (Cast.refl _) (by simp [go_sem]) (Cast.refl _) (by simp) (by simp [maxLen]; omega) (by simp; omega) (by simp [go_sem]) (fun h' => ?_))
      all_goals
        simp only [go_sem, Nat.reduceEqDiff, Nat.reduceAdd, Nat.reduceSub, Nat.reduceLT, Nat.reduceMul, Nat.reduceBEq, Nat.reduceLeDiff, ↓reduceIte, Int.reduceToNat, Nat.reduceGT, Int.reduceLE, Int.reduceLT, Int.reduceGE, Int.reduceGT, Int.reduceEq, Int.reduceNe, reduceCtorEq]
        refine callX_by (c h' _ hb) ?_
        rintro r hp2 ⟨rfl, s', rfl, hR⟩
        refine ret_le (hp' := hp.setBlk b 75 (s'.cs p fuel)) ⟨fun _ _ h => h, fun _ _ h => h, (List.sublist_cons_self _ _).trans (List.sublist_cons_self _ _), fun _ h => h⟩ ?_
        show OutR p fuel b hp l2 s (passG p.ds p.fs (.int n) (.app t e got k)) _ _
        rw [passG, if_neg (fun hh => by cases hh.2)]
        exact ⟨rfl, s', rfl, hR⟩
  · refine assertNo_by (u := u) (a := a) (z := .v (.int .i64 0)) (by decide +kernel) Tryz.z3 (fun _ => trivial) (by simp [go_sem]) hu (by simp [go_sem]) ?_
    simp only [go_sem, Nat.reduceEqDiff, Nat.reduceAdd, Nat.reduceSub, Nat.reduceLT, Nat.reduceMul, Nat.reduceBEq, Nat.reduceLeDiff, ↓reduceIte, Int.reduceToNat, Nat.reduceGT, Int.reduceLE, Int.reduceLT, Int.reduceGE, Int.reduceGT, Int.reduceEq, Int.reduceNe, reduceCtorEq]
    refine brK_mk (fun g => ?_) (fun g => ?_) <;> simp only [go_sem, Nat.reduceEqDiff, Nat.reduceAdd, Nat.reduceSub, Nat.reduceLT, Nat.reduceMul, Nat.reduceBEq, Nat.reduceLeDiff, ↓reduceIte, Int.reduceToNat, Nat.reduceGT, Int.reduceLE, Int.reduceLT, Int.reduceGE, Int.reduceGT, Int.reduceEq, Int.reduceNe, reduceCtorEq, g]
    · have o2 := of_decide_eq_true g
      refine callX_by (fin _ hb) ?_
      rintro r hp2 ⟨rfl, rfl⟩
      simp only [go_sem, Nat.reduceEqDiff, Nat.reduceAdd, Nat.reduceSub, Nat.reduceLT, Nat.reduceMul, Nat.reduceBEq, Nat.reduceLeDiff, ↓reduceIte, Int.reduceToNat, Nat.reduceGT, Int.reduceLE, Int.reduceLT, Int.reduceGE, Int.reduceGT, Int.reduceEq, Int.reduceNe, reduceCtorEq]
      refine ret_same ?_
      rw [passG, if_pos ⟨o2, hni⟩]
      exact ⟨rfl, rfl⟩
    · have o2 := of_decide_eq_false g
      have c := fun h' hp' hb' => c h' hp' hb' (fun o => absurd o o2)
      refine draw_by (mu := []) (fun _ => True) (.take 0 (.take 1 (.take 2 (.take 3 (.take 4 (.take 5 (.take 6 (.take 7 (.take 8 (.take 9 (.take 10 (.take 11 (.take 12 (.take 13 (.take 14 (.take 15 (.take 16 (.take 17 (.take 18 (.take 19 (.take 20 (.take 21 (.take 22 (.take 24 (.take 28 (.take 29 (.take 30 (.take 31 (.br 23 (.br 25 (.br 26 (.br 27 (.br 32 (.done) (.stop)) (.stop)) (.stop)) (.stop)) (.br 25 (.br 23 (.br 26 (.br 27 (.br 32 (.done) (.stop)) (.stop)) (.stop)) (.br 26 (.br 23 (.br 27 (.br 32 (.done) (.stop)) (.stop)) (.stop)) (.stop))) (.stop))))))))))))))))))))))))))))))) (by decide +kernel) trivial (by decide +kernel) (by decide +kernel) ?_
      simp (maxSteps := 4000000) only [go_sem, Nat.reduceEqDiff, Nat.reduceAdd, Nat.reduceSub, Nat.reduceLT, Nat.reduceMul, Nat.reduceBEq, Nat.reduceLeDiff, ↓reduceIte, Int.reduceToNat, Nat.reduceGT, Int.reduceLE, Int.reduceLT, Int.reduceGE, Int.reduceGT, Int.reduceEq, Int.reduceNe, reduceCtorEq, hal, ea1, ea2, ka1, ka2]
      repeat' (first | exact rfl | with_reducible intro _ | with_reducible refine And.intro ?_ ?_)
      all_goals first | (simp_all; done) | skip
      all_goals first
        | (rename_i a' hd'
           refine appendC_by (ax := a') (n := gs.length) (h2 := hd') (xs := gs) (ys := [.agg [.ifc u a, .v (.pointer none)]]) (a := .lst 2 (.slice a' gs.length gs.length) gs) (b := .lst 2 hd' [.agg [.ifc u a, .v (.pointer none)]]) Tryz.k155 Tryz.s81 Tryz.y81 Tryz.z81 rfl (by decide)
             (by simp [go_sem, ← hal]) (Cast.refl _) (by simp [go_sem]) (Cast.refl _) (by simp) (by simp [maxLen]; omega) (by simp; omega) (by simp [go_sem]) (fun h' => ?_))
        | (rename_i hd' a'
           refine appendC_by (ax := a') (n := gs.length) (h2 := hd') (xs := gs) (ys := [.agg [.ifc u a, .v (.pointer none)]]) (a := .lst 2 (.slice a' gs.length gs.length) gs) (b := .lst 2 hd' [.agg [.ifc u a, .v (.pointer none)]]) Tryz.k155 Tryz.s81 Tryz.y81 Tryz.z81 rfl (by decide)
             (by simp [go_sem, ← hal]) (Cast.refl _) (by simp [go_sem]) (Cast.refl _) (by simp) (by simp [maxLen]; omega) (by simp; omega) (by simp [go_sem]) (fun h' => ?_))
      all_goals
        simp only [go_sem, Nat.reduceEqDiff, Nat.reduceAdd, Nat.reduceSub, Nat.reduceLT, Nat.reduceMul, Nat.reduceBEq, Nat.reduceLeDiff, ↓reduceIte, Int.reduceToNat, Nat.reduceGT, Int.reduceLE, Int.reduceLT, Int.reduceGE, Int.reduceGT, Int.reduceEq, Int.reduceNe, reduceCtorEq]
        refine callX_by (c h' _ hb) ?_
        rintro r hp2 ⟨rfl, s', rfl, hR⟩
        refine ret_le (hp' := hp.setBlk b 75 (s'.cs p fuel)) ⟨fun _ _ h => h, fun _ _ h => h, (List.sublist_cons_self _ _).trans (List.sublist_cons_self _ _), fun _ h => h⟩ ?_
        show OutR p fuel b hp l2 s (passG p.ds p.fs v (.app t e got k)) _ _
        rw [passG, if_neg (fun hh => o2 hh.1)]
        exact ⟨rfl, s', rfl, hR⟩
end Go.Proofs.YtkoachnlimebaaaGreatDoor
/- Direct evaluation: a case, an observation, a test receive a value. -/
set_option linter.unusedSimpArgs false
set_option linter.unusedVariables false
set_option maxRecDepth 20000
set_option maxHeartbeats 4000000
namespace Go.Proofs.YtkoachnlimebaaaGreatDoor
open Go.AL

theorem ms_end (b : Nat) (p : ProgG) (fuel : Int) (s : MS) (hp : Hp) (hb : hp.blk b = some (75, s.cs p fuel)) : ACalls Tryz.prog 79 [.v (.pointer (some ⟨b, 0, none⟩)), .v (.int .i64 2), .v (.int .i64 0)] hp (fun r hp2 => r = .tup [] ∧ hp2 = hp.setBlk b 75 (({ s with how := 2, val := 0, over := true } : MS).cs p fuel)) := mend_calls b p fuel s 2 0 hp hb
theorem PV.cons {v : ValG} {va : AV} (h : PV v va) : (∃ ty n args h gs, v = .con ty n args ∧ PBs args gs ∧ va = .ifc 252 (.agg [.v (.int .i64 ty), .v (.int .i64 n), .lst 2 h gs])) ∨ ((∀ ty n args, v ≠ .con ty n args) ∧ ∃ u a, u ≠ 252 ∧ va = .ifc u a) := by
  cases h with
  | int n => exact .inr ⟨fun _ _ _ h => (by cases h), _, _, by decide, rfl⟩
  | con ty n args h as' ha => exact .inl ⟨_, _, _, _, _, rfl, ha, rfl⟩
  | obj t e ea he => exact .inr ⟨fun _ _ _ h => (by cases h), _, _, by decide, rfl⟩
theorem PV.objs {v : ValG} {va : AV} (h : PV v va) : (∃ t e ea, v = .obj t e ∧ PE e ea ∧ va = .ifc 166 (.agg [.v (.int .i64 t.op), .v (.int .i64 t.n), .v (.string (bs t.name)), .v (.int .i64 t.ty), .lst 6 t.ha (t.args.map TermG.av), .lst 7 t.hc (t.cls.map ClauseG.av), ea])) ∨ ((∀ t e, v ≠ .obj t e) ∧ ∃ u a, u ≠ 166 ∧ va = .ifc u a) := by
  cases h with
  | int n => exact .inr ⟨fun _ _ h => (by cases h), _, _, by decide, rfl⟩
  | con ty n args h as' ha => exact .inr ⟨fun _ _ h => (by cases h), _, _, by decide, rfl⟩
  | obj t e ea he => exact .inl ⟨_, _, _, rfl, he, rfl⟩
/-- A case that waits for its value. -/
theorem recv_cas_calls (b : Nat) (p : ProgG) (fuel : Int) (s : MS) (l2 : List (TypeId × Nat × Value)) {v : ValG} {va : AV} (hv : PV v va) {t : TermG} {e : EnvG} {k : FrmG} {fa : AV} (hf : PK (.cas t e k) fa)
    (hc : ∀ ty n args, v = .con ty n args → ty = t.ty → 0 ≤ n ∧ ∃ c, t.cls[n.toNat]? = some c ∧ c.names.length ≤ args.length ∧ c.names.length ≤ 6) (hp : Hp) (hb : hp.blk b = some (75, s.cs p fuel)) :
    ACalls Tryz.prog 269 [.agg [], ptr0 b, fa, va] hp (OutR p fuel b hp l2 s (passG p.ds p.fs v (.cas t e k))) := by
  cases hf with | cas _ _ _ ea ka g q he hk =>
  have ea1 := ((AV.cells.eq_1 _).symm.trans he.o.cells); have ea2 := he.o.one
  have ka1 := ((AV.cells.eq_1 _).symm.trans hk.o.cells); have ka2 := hk.o.one
  refine acalls_of Tryz.func269 rfl (by decide +kernel) (awp_sound (mu := []) _ _ _ ?_)
  simp only [go_sem, Nat.reduceEqDiff, Nat.reduceAdd, Nat.reduceSub, Nat.reduceLT, Nat.reduceBEq, Nat.reduceLeDiff, ↓reduceIte, Int.reduceToNat, Int.reduceLE, Int.reduceLT, Int.reduceEq, reduceCtorEq, ptr0]
  intro q0
  rcases hv.cons with ⟨ty, n, args, h, gs, rfl, hg, rfl⟩ | ⟨hni, u, a, hu, rfl⟩
  · refine assertYes_by (a := .agg [.v (.int .i64 ty), .v (.int .i64 n), .lst 2 h gs]) (by decide +kernel) (by simp [go_sem]) (by simp [go_sem]) ?_
    simp only [go_sem, Nat.reduceEqDiff, Nat.reduceAdd, Nat.reduceSub, Nat.reduceLT, Nat.reduceBEq, Nat.reduceLeDiff, ↓reduceIte, Int.reduceToNat, Int.reduceLE, Int.reduceLT, Int.reduceEq, reduceCtorEq]
    intro v1 hv1
    have hds := fun T cs => Hp.del_set _ _ T cs hv1.1
    simp only [go_sem, Nat.reduceEqDiff, Nat.reduceAdd, Nat.reduceSub, Nat.reduceLT, Nat.reduceBEq, Nat.reduceLeDiff, ↓reduceIte, Int.reduceToNat, Int.reduceLE, Int.reduceLT, Int.reduceEq, reduceCtorEq, hds]
    refine draw_by (mu := []) (fun _ => True) (.take 0 (.take 1 (.take 2 (.take 3 (.take 4 (.take 5 (.take 6 (.take 7 (.take 8 (.take 9 (.take 10 (.take 11 (.done))))))))))))) (by decide +kernel) trivial (by decide +kernel) (by decide +kernel) ?_
    simp only [go_sem, Nat.reduceEqDiff, Nat.reduceAdd, Nat.reduceSub, Nat.reduceLT, Nat.reduceBEq, Nat.reduceLeDiff, ↓reduceIte, Int.reduceToNat, Int.reduceLE, Int.reduceLT, Int.reduceEq, reduceCtorEq]
    refine brK_mk (fun h1 => ?_) (fun h1 => ?_) <;> simp only [go_sem, Nat.reduceEqDiff, Nat.reduceAdd, Nat.reduceSub, Nat.reduceLT, Nat.reduceBEq, Nat.reduceLeDiff, ↓reduceIte, Int.reduceToNat, Int.reduceLE, Int.reduceLT, Int.reduceEq, reduceCtorEq, h1]
    · have hty : ty = t.ty := of_decide_eq_true h1
      obtain ⟨hn0, c, hcl, hlen, hl6⟩ := hc ty n args rfl hty
      have hpass : passG p.ds p.fs (.con ty n args) (.cas t e k) = .go (.ev c.body (bindG e c.names args) k) := by
        rw [passG, if_pos hty, hcl]
      rw [hpass]
      have hal := hg.len
      refine draw_by (mu := []) (fun _ => True) (.take 0 (.take 1 (.take 2 (.take 3 (.take 4 (.take 5 (.take 6 (.take 7 (.take 8 (.take 9 (.take 10 (.take 11 (.take 12 (.br 13 (.take 14 (.br 15 (.done) (.stop))) (.stop))))))))))))))) (by decide +kernel) trivial (by decide +kernel) (by decide +kernel) ?_
      simp (maxSteps := 4000000) only [go_sem, Nat.reduceEqDiff, Nat.reduceAdd, Nat.reduceSub, Nat.reduceLT, Nat.reduceBEq, Nat.reduceLeDiff, ↓reduceIte, Int.reduceToNat, Int.reduceLE, Int.reduceLT, Int.reduceEq, reduceCtorEq, mapAt ClauseG.av _ _ _ hcl, ClauseG.av, ClauseG.cs_eq]
      refine ⟨hn0, fun _ _ => hn0, ?_⟩
      intro v2 hv2
      have hds2 := fun T cs => Hp.del_set _ _ T cs hv2.1
      simp only [go_sem, Nat.reduceEqDiff, Nat.reduceAdd, Nat.reduceSub, Nat.reduceLT, Nat.reduceBEq, Nat.reduceLeDiff, ↓reduceIte, Int.reduceToNat, Int.reduceLE, Int.reduceLT, Int.reduceEq, reduceCtorEq, hds2]
      refine aw_loopX 72 (fun y : Nat × EnvG × AV => [(1, ptr0 b), (2, .ref q [.ifc 165 (.agg []), .v (.int .i64 t.op), .v (.int .i64 t.n), .v (.string (bs t.name)), .v (.int .i64 t.ty), .lst 6 t.ha (t.args.map TermG.av), .lst 7 t.hc (t.cls.map ClauseG.av), ea, g, ka]), (8, .ref (.pointer (some ⟨v1, 0, none⟩)) [.v (.int .i64 ty), .v (.int .i64 n), .lst 2 h gs]), (10, y.2.2), (11, .ref (.pointer (some ⟨v2, 0, none⟩)) c.cs), (47, .lst 1 c.hn (c.names.map fun s => .v (.string (bs s)))), (48, .v (.int .i64 c.names.length)), (49, .v (.int .i64 y.1))])
        (fun _ => hp) (fun y => y.1 ≤ c.names.length ∧ PE y.2.1 y.2.2 ∧ bindG e c.names args = bindG y.2.1 (c.names.drop y.1) (args.drop y.1)) (fun y => c.names.length - y.1) (0, e, ea) ⟨Nat.zero_le _, he, rfl⟩
        (le_mkSl rfl (Hp.le_refl _) (by simp [go_sem, ptr0, ClauseG.cs_eq])) ?_
      rintro ⟨k', e', ea'⟩ ⟨hk', he', hbi⟩
      simp only at hk' he' hbi
      refine awp_sound (mu := []) _ _ _ ?_
      simp only [go_sem, Nat.reduceEqDiff, Nat.reduceAdd, Nat.reduceSub, Nat.reduceLT, Nat.reduceBEq, Nat.reduceLeDiff, ↓reduceIte, Int.reduceToNat, Int.reduceLE, Int.reduceLT, Int.reduceEq, reduceCtorEq, ptr0, ClauseG.cs_eq]
      refine brK_mk (fun h1 => ?_) (fun h1 => ?_) <;> simp only [go_sem, Nat.reduceEqDiff, Nat.reduceAdd, Nat.reduceSub, Nat.reduceLT, Nat.reduceBEq, Nat.reduceLeDiff, ↓reduceIte, Int.reduceToNat, Int.reduceLE, Int.reduceLT, Int.reduceEq, reduceCtorEq, h1]
      · have hlt : k' < c.names.length := by simpa using h1
        obtain ⟨x, hx⟩ := someAt c.names k' hlt
        obtain ⟨g0, hg0⟩ := someAt args k' (by omega)
        obtain ⟨a0, c0, hgs, p0⟩ := hg.at hg0
        have hwu : IntKind.i64.wrap ((k' : Int) + 1) = ((k' + 1 : Nat) : Int) := IntWalk.i64_in _ (by omega)
        simp only [go_sem, Nat.reduceEqDiff, Nat.reduceAdd, Nat.reduceSub, Nat.reduceLT, Nat.reduceBEq, Nat.reduceLeDiff, ↓reduceIte, Int.reduceToNat, Int.reduceLE, Int.reduceLT, Int.reduceEq, reduceCtorEq, strAt _ _ _ hx, hgs]
        refine callX_by (ebind_calls ea' x a0 c0 he'.o p0.o.1 p0.o.2 hp) ?_
        rintro r hp1 ⟨⟨q3, rfl⟩, rfl⟩
        simp only [go_sem, Nat.reduceEqDiff, Nat.reduceAdd, Nat.reduceSub, Nat.reduceLT, Nat.reduceBEq, Nat.reduceLeDiff, ↓reduceIte, Int.reduceToNat, Int.reduceLE, Int.reduceLT, Int.reduceEq, reduceCtorEq, hwu]
        exact ⟨(k' + 1, .var x g0 e', _), by simp only; omega, ⟨by simp only; omega, .var _ _ _ _ _ _ q3 p0 he', by rw [hbi]; exact bindG_step hx hg0⟩, le_mkSl rfl (Hp.le_refl _) (by simp [go_sem, ptr0, hwu, ClauseG.cs_eq])⟩
      · have hge : k' = c.names.length := by simp at h1; omega
        subst hge
        rw [List.drop_of_length_le (Nat.le_refl _), bindG_nil] at hbi
        rw [hbi]
        refine draw_by (mu := []) (fun _ => True) (.take 0 (.take 1 (.take 2 (.take 3 (.take 4 (.take 5 (.take 6 (.take 7 (.br 8 (.done) (.stop)))))))))) (by decide +kernel) trivial (by decide +kernel) (by decide +kernel) ?_
        simp only [go_sem, Nat.reduceEqDiff, Nat.reduceAdd, Nat.reduceSub, Nat.reduceLT, Nat.reduceBEq, Nat.reduceLeDiff, ↓reduceIte, Int.reduceToNat, Int.reduceLE, Int.reduceLT, Int.reduceEq, reduceCtorEq]
        have c := meval_calls b p fuel s c.body ea' ka he'.o hk.o hp hb
        simp only [ptr0, TermG.av, TermG.cs_eq] at c
        refine callX_by c ?_
        clear c
        rintro r hp2 ⟨rfl, rfl⟩
        exact ret_same ⟨rfl, _, rfl, rfl, rfl, rfl, rfl, rfl, rfl, ⟨rfl, rfl, he', hk⟩⟩
    · have hty : ¬ ty = t.ty := of_decide_eq_false h1
      have hpass : passG p.ds p.fs (.con ty n args) (.cas t e k) = .fin 2 0 := by rw [passG, if_neg hty]
      rw [hpass]
      refine callX_by (ms_end b p fuel s hp hb) ?_
      rintro r hp2 ⟨rfl, rfl⟩
      exact ret_same ⟨rfl, rfl⟩
  · refine assertNo_by (u := u) (a := a) (z := .agg [.v (.int .i64 0), .v (.int .i64 0), .v (.slice none 0 0)]) (by decide +kernel) Tryz.z252 (fun _ => ⟨trivial, trivial, trivial, trivial⟩) (by simp [go_sem]) hu (by simp [go_sem]) ?_
    simp only [go_sem, Nat.reduceEqDiff, Nat.reduceAdd, Nat.reduceSub, Nat.reduceLT, Nat.reduceBEq, Nat.reduceLeDiff, ↓reduceIte, Int.reduceToNat, Int.reduceLE, Int.reduceLT, Int.reduceEq, reduceCtorEq]
    intro v1 hv1
    have hds := fun T cs => Hp.del_set _ _ T cs hv1.1
    simp only [go_sem, Nat.reduceEqDiff, Nat.reduceAdd, Nat.reduceSub, Nat.reduceLT, Nat.reduceBEq, Nat.reduceLeDiff, ↓reduceIte, Int.reduceToNat, Int.reduceLE, Int.reduceLT, Int.reduceEq, reduceCtorEq, hds]
    refine draw_by (mu := []) (fun _ => True) (.take 0 (.take 1 (.take 2 (.take 3 (.take 4 (.take 5 (.take 6 (.take 7 (.take 8 (.take 9 (.take 10 (.take 11 (.done))))))))))))) (by decide +kernel) trivial (by decide +kernel) (by decide +kernel) ?_
    simp only [go_sem, Nat.reduceEqDiff, Nat.reduceAdd, Nat.reduceSub, Nat.reduceLT, Nat.reduceBEq, Nat.reduceLeDiff, ↓reduceIte, Int.reduceToNat, Int.reduceLE, Int.reduceLT, Int.reduceEq, reduceCtorEq]
    have hpass : passG p.ds p.fs v (.cas t e k) = .fin 2 0 := by
      cases v with
      | con ty n args => exact absurd rfl (hni ty n args)
      | int n => rfl
      | obj t' e' => rfl
    rw [hpass]
    refine callX_by (ms_end b p fuel s hp hb) ?_
    rintro r hp2 ⟨rfl, rfl⟩
    exact ret_same ⟨rfl, rfl⟩
/-- An observation that waits for its object. -/
theorem recv_obs_calls (b : Nat) (p : ProgG) (fuel : Int) (s : MS) (l2 : List (TypeId × Nat × Value)) {v : ValG} {va : AV} (hv : PV v va) {t : TermG} {e : EnvG} {got : List BndG} {k : FrmG} {fa : AV} (hf : PK (.obs t e got k) fa)
    (hc : ∀ t' e', v = .obj t' e' → t'.ty = t.ty → 0 ≤ t.n ∧ ∃ c, t'.cls[t.n.toNat]? = some c ∧ c.names.length ≤ got.length ∧ c.names.length ≤ 6) (hp : Hp) (hb : hp.blk b = some (75, s.cs p fuel)) :
    ACalls Tryz.prog 271 [.agg [], ptr0 b, fa, va] hp (OutR p fuel b hp l2 s (passG p.ds p.fs v (.obs t e got k))) := by
  cases hf with | obs _ _ _ _ ea ka h q gs he hg hk =>
  refine acalls_of Tryz.func271 rfl (by decide +kernel) (awp_sound (mu := []) _ _ _ ?_)
  simp only [go_sem, Nat.reduceEqDiff, Nat.reduceAdd, Nat.reduceSub, Nat.reduceLT, Nat.reduceBEq, Nat.reduceLeDiff, ↓reduceIte, Int.reduceToNat, Int.reduceLE, Int.reduceLT, Int.reduceEq, reduceCtorEq, ptr0]
  intro q0
  rcases hv.objs with ⟨t', e0, ea0, rfl, he0, rfl⟩ | ⟨hni, u, a, hu, rfl⟩
  · have ea1 := ((AV.cells.eq_1 _).symm.trans he0.o.cells); have ea2 := he0.o.one
    refine assertYes_by (a := .agg [.v (.int .i64 t'.op), .v (.int .i64 t'.n), .v (.string (bs t'.name)), .v (.int .i64 t'.ty), .lst 6 t'.ha (t'.args.map TermG.av), .lst 7 t'.hc (t'.cls.map ClauseG.av), ea0]) (by decide +kernel) (by simp [go_sem]) (by simp [go_sem]) ?_
    simp only [go_sem, Nat.reduceEqDiff, Nat.reduceAdd, Nat.reduceSub, Nat.reduceLT, Nat.reduceBEq, Nat.reduceLeDiff, ↓reduceIte, Int.reduceToNat, Int.reduceLE, Int.reduceLT, Int.reduceEq, reduceCtorEq, ea1, ea2]
    intro v1 hv1
    have hds := fun T cs => Hp.del_set _ _ T cs hv1.1
    simp only [go_sem, Nat.reduceEqDiff, Nat.reduceAdd, Nat.reduceSub, Nat.reduceLT, Nat.reduceBEq, Nat.reduceLeDiff, ↓reduceIte, Int.reduceToNat, Int.reduceLE, Int.reduceLT, Int.reduceEq, reduceCtorEq, hds]
    refine draw_by (mu := []) (fun _ => True) (.take 0 (.take 1 (.take 2 (.take 3 (.take 4 (.take 5 (.take 6 (.take 7 (.take 8 (.take 9 (.take 10 (.take 11 (.take 12 (.done)))))))))))))) (by decide +kernel) trivial (by decide +kernel) (by decide +kernel) ?_
    simp only [go_sem, Nat.reduceEqDiff, Nat.reduceAdd, Nat.reduceSub, Nat.reduceLT, Nat.reduceBEq, Nat.reduceLeDiff, ↓reduceIte, Int.reduceToNat, Int.reduceLE, Int.reduceLT, Int.reduceEq, reduceCtorEq]
    refine brK_mk (fun h1 => ?_) (fun h1 => ?_) <;> simp only [go_sem, Nat.reduceEqDiff, Nat.reduceAdd, Nat.reduceSub, Nat.reduceLT, Nat.reduceBEq, Nat.reduceLeDiff, ↓reduceIte, Int.reduceToNat, Int.reduceLE, Int.reduceLT, Int.reduceEq, reduceCtorEq, h1]
    · have hty : t'.ty = t.ty := of_decide_eq_true h1
      obtain ⟨hn0, c, hcl, hlen, hl6⟩ := hc t' e0 rfl hty
      have hpass : passG p.ds p.fs (.obj t' e0) (.obs t e got k) = .go (.ev c.body (bindG e0 c.names got) k) := by
        rw [passG, if_pos hty, hcl]
      rw [hpass]
      have hal := hg.len
      refine draw_by (mu := []) (fun _ => True) (.take 0 (.take 1 (.take 2 (.take 3 (.take 4 (.take 5 (.take 6 (.take 7 (.take 8 (.take 9 (.take 10 (.take 11 (.br 12 (.take 13 (.br 14 (.done) (.stop))) (.stop)))))))))))))) (by decide +kernel) trivial (by decide +kernel) (by decide +kernel) ?_
      simp (maxSteps := 4000000) only [go_sem, Nat.reduceEqDiff, Nat.reduceAdd, Nat.reduceSub, Nat.reduceLT, Nat.reduceBEq, Nat.reduceLeDiff, ↓reduceIte, Int.reduceToNat, Int.reduceLE, Int.reduceLT, Int.reduceEq, reduceCtorEq, mapAt ClauseG.av _ _ _ hcl, ClauseG.av, ClauseG.cs_eq]
      refine ⟨hn0, fun _ _ => hn0, ?_⟩
      intro v2 hv2
      have hds2 := fun T cs => Hp.del_set _ _ T cs hv2.1
      simp only [go_sem, Nat.reduceEqDiff, Nat.reduceAdd, Nat.reduceSub, Nat.reduceLT, Nat.reduceBEq, Nat.reduceLeDiff, ↓reduceIte, Int.reduceToNat, Int.reduceLE, Int.reduceLT, Int.reduceEq, reduceCtorEq, hds2]
      refine aw_loopX 74 (fun y : Nat × EnvG × AV => [(1, ptr0 b), (2, .ref q [.ifc 253 (.agg []), .v (.int .i64 t.op), .v (.int .i64 t.n), .v (.string (bs t.name)), .v (.int .i64 t.ty), .lst 6 t.ha (t.args.map TermG.av), .lst 7 t.hc (t.cls.map ClauseG.av), ea, .lst 2 h gs, ka]), (10, y.2.2), (11, .ref (.pointer (some ⟨v2, 0, none⟩)) c.cs), (47, .lst 1 c.hn (c.names.map fun s => .v (.string (bs s)))), (48, .v (.int .i64 c.names.length)), (49, .v (.int .i64 y.1))])
        (fun _ => hp) (fun y => y.1 ≤ c.names.length ∧ PE y.2.1 y.2.2 ∧ bindG e0 c.names got = bindG y.2.1 (c.names.drop y.1) (got.drop y.1)) (fun y => c.names.length - y.1) (0, e0, ea0) ⟨Nat.zero_le _, he0, rfl⟩
        (le_mkSl rfl (Hp.le_refl _) (by simp [go_sem, ptr0, ClauseG.cs_eq])) ?_
      rintro ⟨k', e', ea'⟩ ⟨hk', he', hbi⟩
      simp only at hk' he' hbi
      refine awp_sound (mu := []) _ _ _ ?_
      simp only [go_sem, Nat.reduceEqDiff, Nat.reduceAdd, Nat.reduceSub, Nat.reduceLT, Nat.reduceBEq, Nat.reduceLeDiff, ↓reduceIte, Int.reduceToNat, Int.reduceLE, Int.reduceLT, Int.reduceEq, reduceCtorEq, ptr0, ClauseG.cs_eq]
      refine brK_mk (fun h1 => ?_) (fun h1 => ?_) <;> simp only [go_sem, Nat.reduceEqDiff, Nat.reduceAdd, Nat.reduceSub, Nat.reduceLT, Nat.reduceBEq, Nat.reduceLeDiff, ↓reduceIte, Int.reduceToNat, Int.reduceLE, Int.reduceLT, Int.reduceEq, reduceCtorEq, h1]
      · have hlt : k' < c.names.length := by simpa using h1
        obtain ⟨x, hx⟩ := someAt c.names k' hlt
        obtain ⟨g0, hg0⟩ := someAt got k' (by omega)
        obtain ⟨a0, c0, hgs, p0⟩ := hg.at hg0
        have hwu : IntKind.i64.wrap ((k' : Int) + 1) = ((k' + 1 : Nat) : Int) := IntWalk.i64_in _ (by omega)
        simp only [go_sem, Nat.reduceEqDiff, Nat.reduceAdd, Nat.reduceSub, Nat.reduceLT, Nat.reduceBEq, Nat.reduceLeDiff, ↓reduceIte, Int.reduceToNat, Int.reduceLE, Int.reduceLT, Int.reduceEq, reduceCtorEq, strAt _ _ _ hx, hgs]
        refine callX_by (ebind_calls ea' x a0 c0 he'.o p0.o.1 p0.o.2 hp) ?_
        rintro r hp1 ⟨⟨q3, rfl⟩, rfl⟩
        simp only [go_sem, Nat.reduceEqDiff, Nat.reduceAdd, Nat.reduceSub, Nat.reduceLT, Nat.reduceBEq, Nat.reduceLeDiff, ↓reduceIte, Int.reduceToNat, Int.reduceLE, Int.reduceLT, Int.reduceEq, reduceCtorEq, hwu]
        exact ⟨(k' + 1, .var x g0 e', _), by simp only; omega, ⟨by simp only; omega, .var _ _ _ _ _ _ q3 p0 he', by rw [hbi]; exact bindG_step hx hg0⟩, le_mkSl rfl (Hp.le_refl _) (by simp [go_sem, ptr0, hwu, ClauseG.cs_eq])⟩
      · have hge : k' = c.names.length := by simp at h1; omega
        subst hge
        rw [List.drop_of_length_le (Nat.le_refl _), bindG_nil] at hbi
        rw [hbi]
        refine draw_by (mu := []) (fun _ => True) (.take 0 (.take 1 (.take 2 (.take 3 (.take 4 (.take 5 (.take 6 (.take 7 (.br 8 (.done) (.stop)))))))))) (by decide +kernel) trivial (by decide +kernel) (by decide +kernel) ?_
        simp only [go_sem, Nat.reduceEqDiff, Nat.reduceAdd, Nat.reduceSub, Nat.reduceLT, Nat.reduceBEq, Nat.reduceLeDiff, ↓reduceIte, Int.reduceToNat, Int.reduceLE, Int.reduceLT, Int.reduceEq, reduceCtorEq]
        have c := meval_calls b p fuel s c.body ea' ka he'.o hk.o hp hb
        simp only [ptr0, TermG.av, TermG.cs_eq] at c
        refine callX_by c ?_
        clear c
        rintro r hp2 ⟨rfl, rfl⟩
        exact ret_same ⟨rfl, _, rfl, rfl, rfl, rfl, rfl, rfl, rfl, ⟨rfl, rfl, he', hk⟩⟩
    · have hty : ¬ t'.ty = t.ty := of_decide_eq_false h1
      have hpass : passG p.ds p.fs (.obj t' e0) (.obs t e got k) = .fin 2 0 := by rw [passG, if_neg hty]
      rw [hpass]
      refine callX_by (ms_end b p fuel s hp hb) ?_
      rintro r hp2 ⟨rfl, rfl⟩
      exact ret_same ⟨rfl, rfl⟩
  · refine assertNo_by (u := u) (a := a) (z := .agg [.v (.int .i64 0), .v (.int .i64 0), .v (.string (bs [])), .v (.int .i64 0), .v (.slice none 0 0), .v (.slice none 0 0), .v (.pointer none)]) (by decide +kernel) Tryz.z166 (fun _ => ⟨trivial, trivial, trivial, trivial, trivial, trivial, trivial, trivial⟩) (by simp [go_sem]) hu (by simp [go_sem]) ?_
    simp only [go_sem, Nat.reduceEqDiff, Nat.reduceAdd, Nat.reduceSub, Nat.reduceLT, Nat.reduceBEq, Nat.reduceLeDiff, ↓reduceIte, Int.reduceToNat, Int.reduceLE, Int.reduceLT, Int.reduceEq, reduceCtorEq]
    intro v1 hv1
    have hds := fun T cs => Hp.del_set _ _ T cs hv1.1
    simp only [go_sem, Nat.reduceEqDiff, Nat.reduceAdd, Nat.reduceSub, Nat.reduceLT, Nat.reduceBEq, Nat.reduceLeDiff, ↓reduceIte, Int.reduceToNat, Int.reduceLE, Int.reduceLT, Int.reduceEq, reduceCtorEq, hds]
    refine draw_by (mu := []) (fun _ => True) (.take 0 (.take 1 (.take 2 (.take 3 (.take 4 (.take 5 (.take 6 (.take 7 (.take 8 (.take 9 (.take 10 (.take 11 (.take 12 (.done)))))))))))))) (by decide +kernel) trivial (by decide +kernel) (by decide +kernel) ?_
    simp only [go_sem, Nat.reduceEqDiff, Nat.reduceAdd, Nat.reduceSub, Nat.reduceLT, Nat.reduceBEq, Nat.reduceLeDiff, ↓reduceIte, Int.reduceToNat, Int.reduceLE, Int.reduceLT, Int.reduceEq, reduceCtorEq]
    have hpass : passG p.ds p.fs v (.obs t e got k) = .fin 2 0 := by
      cases v with
      | con ty n args => rfl
      | int n => rfl
      | obj t' e' => exact absurd rfl (hni t' e')
    rw [hpass]
    refine callX_by (ms_end b p fuel s hp hb) ?_
    rintro r hp2 ⟨rfl, rfl⟩
    exact ret_same ⟨rfl, rfl⟩
/-- A test or an emission that waits for its integer. -/
theorem recv_tst_calls (b : Nat) (p : ProgG) (fuel : Int) (s : MS) (l2 : List (TypeId × Nat × Value)) {v : ValG} {va : AV} (hv : PV v va) {t : TermG} {e : EnvG} {k : FrmG} {fa : AV} (hf : PK (.tst t e k) fa)
    (ho : (t.op = 3 ∧ t.args.length = 3) ∨ (t.op = 10 ∧ t.args.length = 2)) (hlen : s.outs.length ≤ 30000) (hp : Hp) (hb : hp.blk b = some (75, s.cs p fuel)) (hsp : hp.sp = (3, 1, s.oh) :: l2) :
    ACalls Tryz.prog 268 [.agg [], ptr0 b, fa, va] hp (OutR p fuel b hp l2 s (passG p.ds p.fs v (.tst t e k))) := by
  cases hf with | tst _ _ _ ea ka g q he hk =>
  refine acalls_of Tryz.func268 rfl (by decide +kernel) (awp_sound (mu := [37]) _ _ _ ?_)
  simp only [go_sem, Nat.reduceEqDiff, Nat.reduceAdd, Nat.reduceSub, Nat.reduceLT, Nat.reduceBEq, Nat.reduceLeDiff, ↓reduceIte, Int.reduceToNat, Int.reduceLE, Int.reduceLT, Int.reduceEq, reduceCtorEq, ptr0]
  intro q0
  have hbm := hb
  simp only [MS.cs] at hbm
  rcases hv.ints with ⟨n, rfl, rfl⟩ | ⟨hni, u, a, hu, rfl⟩
  · refine assertYes_by (a := .v (.int .i64 n)) (by decide +kernel) (by simp [go_sem]) (by simp [go_sem]) ?_
    rcases ho with ⟨o, hl⟩ | ⟨o, hl⟩
    · obtain ⟨a1, ha1⟩ := someAt t.args 1 (by omega)
      obtain ⟨a2, ha2⟩ := someAt t.args 2 (by omega)
      simp only [go_sem, Nat.reduceEqDiff, Nat.reduceAdd, Nat.reduceSub, Nat.reduceLT, Nat.reduceBEq, Nat.reduceLeDiff, ↓reduceIte, Int.reduceToNat, Int.reduceLE, Int.reduceLT, Int.reduceEq, reduceCtorEq, o, decide_false, decide_true]
      refine brK_mk (fun h1 => ?_) (fun h1 => ?_) <;> simp only [go_sem, Nat.reduceEqDiff, Nat.reduceAdd, Nat.reduceSub, Nat.reduceLT, Nat.reduceBEq, Nat.reduceLeDiff, ↓reduceIte, Int.reduceToNat, Int.reduceLE, Int.reduceLT, Int.reduceEq, reduceCtorEq, h1]
      · have hn : n = 0 := of_decide_eq_true h1
        have hpass : passG p.ds p.fs (.int n) (.tst t e k) = .go (.ev a1 e k) := by
          rw [passG]; simp [o, hn, argK', ha1]
        rw [hpass]
        refine draw_by (mu := [37]) (fun _ => True) (.take 0 (.take 1 (.take 2 (.take 3 (.take 4 (.take 5 (.take 6 (.take 7 (.take 8 (.take 9 (.take 10 (.take 11 (.take 12 (.take 13 (.take 14 (.take 15 (.take 16 (.br 17 (.done) (.stop))))))))))))))))))) (by decide +kernel) trivial (by decide +kernel) (by decide +kernel) ?_
        simp (maxSteps := 4000000) only [go_sem, Nat.reduceEqDiff, Nat.reduceAdd, Nat.reduceSub, Nat.reduceLT, Nat.reduceBEq, Nat.reduceLeDiff, ↓reduceIte, Int.reduceToNat, Int.reduceLE, Int.reduceLT, Int.reduceEq, reduceCtorEq, mapAt TermG.av _ _ _ ha1, TermG.av, TermG.cs_eq]
        have c := meval_calls b p fuel s a1 ea ka he.o hk.o hp hb
        simp only [ptr0, TermG.av, TermG.cs_eq] at c
        refine callX_by c ?_
        clear c
        rintro r hp2 ⟨rfl, rfl⟩
        exact ret_same ⟨rfl, _, rfl, rfl, rfl, rfl, rfl, rfl, rfl, ⟨rfl, rfl, he, hk⟩⟩
      · have hn : ¬ n = 0 := of_decide_eq_false h1
        have hpass : passG p.ds p.fs (.int n) (.tst t e k) = .go (.ev a2 e k) := by
          rw [passG]; simp [o, hn, argK', ha2]
        rw [hpass]
        refine draw_by (mu := [37]) (fun _ => True) (.take 0 (.take 1 (.take 2 (.take 3 (.take 4 (.take 5 (.take 6 (.take 7 (.take 8 (.take 9 (.take 10 (.take 11 (.take 12 (.take 13 (.take 14 (.take 15 (.take 16 (.br 17 (.done) (.stop))))))))))))))))))) (by decide +kernel) trivial (by decide +kernel) (by decide +kernel) ?_
        simp (maxSteps := 4000000) only [go_sem, Nat.reduceEqDiff, Nat.reduceAdd, Nat.reduceSub, Nat.reduceLT, Nat.reduceBEq, Nat.reduceLeDiff, ↓reduceIte, Int.reduceToNat, Int.reduceLE, Int.reduceLT, Int.reduceEq, reduceCtorEq, mapAt TermG.av _ _ _ ha2, TermG.av, TermG.cs_eq]
        have c := meval_calls b p fuel s a2 ea ka he.o hk.o hp hb
        simp only [ptr0, TermG.av, TermG.cs_eq] at c
        refine callX_by c ?_
        clear c
        rintro r hp2 ⟨rfl, rfl⟩
        exact ret_same ⟨rfl, _, rfl, rfl, rfl, rfl, rfl, rfl, rfl, ⟨rfl, rfl, he, hk⟩⟩
    · obtain ⟨a1, ha1⟩ := someAt t.args 1 (by omega)
      have hpass : passG p.ds p.fs (.int n) (.tst t e k) = .emit n (.ev a1 e k) := by
        rw [passG]; simp [o, argK', ha1]
      rw [hpass]
      simp only [go_sem, Nat.reduceEqDiff, Nat.reduceAdd, Nat.reduceSub, Nat.reduceLT, Nat.reduceBEq, Nat.reduceLeDiff, ↓reduceIte, Int.reduceToNat, Int.reduceLE, Int.reduceLT, Int.reduceEq, reduceCtorEq, o, decide_false, decide_true, hbm]
      refine ⟨rfl, by simp, fun hd' => ?_⟩
      refine append_by (a := .lst 1 s.oh (s.outs.map iv)) (b := .lst 1 hd' [iv n]) (l1 := [(3, 1, hd')]) (l2 := l2) (h := s.oh) (h2 := hd') Tryz.k26 Tryz.s3 Tryz.y3 Tryz.z3 rfl (by decide)
        (by simp [go_sem]) (Cast.refl _) (by simp [go_sem, iv]) (Cast.refl _) (by simp [go_sem, hsp]) (by simp [go_sem, iv]) (by simp [maxLen]; omega) (by simp; omega) (by simp [go_sem]) (fun h' => ?_)
      simp only [go_sem, Nat.reduceEqDiff, Nat.reduceAdd, Nat.reduceSub, Nat.reduceLT, Nat.reduceBEq, Nat.reduceLeDiff, ↓reduceIte, Int.reduceToNat, Int.reduceLE, Int.reduceLT, Int.reduceEq, reduceCtorEq, hbm]
      refine draw_by (mu := [37]) (fun _ => True) (.take 0 (.take 1 (.take 2 (.take 3 (.take 4 (.take 5 (.take 6 (.take 7 (.take 8 (.take 9 (.take 10 (.take 11 (.take 12 (.take 13 (.take 14 (.take 15 (.take 16 (.br 17 (.done) (.stop))))))))))))))))))) (by decide +kernel) trivial (by decide +kernel) (by decide +kernel) ?_
      simp (maxSteps := 4000000) only [go_sem, Nat.reduceEqDiff, Nat.reduceAdd, Nat.reduceSub, Nat.reduceLT, Nat.reduceBEq, Nat.reduceLeDiff, ↓reduceIte, Int.reduceToNat, Int.reduceLE, Int.reduceLT, Int.reduceEq, reduceCtorEq, mapAt TermG.av _ _ _ ha1, TermG.av, TermG.cs_eq]
      have c := fun (X : Hp) hb' => meval_calls b p fuel ({ s with oh := h', outs := s.outs ++ [n] } : MS) a1 ea ka he.o hk.o X hb'
      simp only [ptr0, TermG.av, TermG.cs_eq] at c
      refine callX_by (c _ (by simp [Hp.setBlk, MS.cs])) ?_
      clear c
      rintro r hp2 ⟨rfl, rfl⟩
      rw [Hp.set_set]
      exact ret_le (hp' := (hp.setSp ((3, 1, h') :: l2)).setBlk b 75 _) ⟨fun _ _ h => h, fun _ _ h => h, List.sublist_cons_self _ _, fun _ h => h⟩ ⟨rfl, { s with t := a1, ea := ea, ka := ka, given := false, oh := h', outs := s.outs ++ [n] }, rfl, rfl, rfl, rfl, rfl, rfl, ⟨rfl, rfl, he, hk⟩⟩
  · refine assertNo_by (u := u) (a := a) (z := .v (.int .i64 0)) (by decide +kernel) Tryz.z3 (fun _ => trivial) (by simp [go_sem]) hu (by simp [go_sem]) ?_
    simp only [go_sem, Nat.reduceEqDiff, Nat.reduceAdd, Nat.reduceSub, Nat.reduceLT, Nat.reduceBEq, Nat.reduceLeDiff, ↓reduceIte, Int.reduceToNat, Int.reduceLE, Int.reduceLT, Int.reduceEq, reduceCtorEq]
    have hpass : passG p.ds p.fs v (.tst t e k) = .fin 2 0 := by
      cases v with
      | con ty n args => rfl
      | int n => cases hni
      | obj t' e' => rfl
    rw [hpass]
    refine callX_by (ms_end b p fuel s hp hb) ?_
    rintro r hp2 ⟨rfl, rfl⟩
    exact ret_same ⟨rfl, rfl⟩
end Go.Proofs.YtkoachnlimebaaaGreatDoor
/- Direct evaluation: a step, and a value that is passed on. -/
set_option linter.unusedSimpArgs false
set_option linter.unusedVariables false
set_option maxRecDepth 20000
set_option maxHeartbeats 4000000
namespace Go.Proofs.YtkoachnlimebaaaGreatDoor
open Go.AL

theorem okk_app {p : ProgG} (hpr : progB p = true) {t : TermG} {e : EnvG} {got : List BndG} {k : FrmG} (h : OkK p.ds p.fs (.app t e got k)) : ∃ V L, AppOk p V L t ∧ got.length < (typesG p.ds p.fs t).length ∧ (t.op = 2 → ∀ b, b ∈ got → isIntB b = true) := by
  cases h with | app _ _ _ _ V L ho hc hv he hg hi hl hk => exact ⟨V, L, ⟨hpr, hv, ho⟩, hl, hi⟩
theorem xtor_small {p : ProgG} (hpr : progB p = true) (t n : Int) : prodN (xtorAt p.ds t n) ≤ 6 := by
  have hsm := (runp_ok hpr).hsm
  unfold xtorAt xtorsOf
  cases hd : p.ds[(t - 1).toNat]? with
  | none => simp [prodN]
  | some d =>
    simp only [Option.map_some, Option.getD_some]
    cases hx : d.xtors[n.toNat]? with
    | none => simp [prodN]
    | some x => exact Nat.le_trans (List.length_filter_le _ _) (hsm d (List.mem_of_getElem? hd) x (List.mem_of_getElem? hx))
theorem okk_cas {p : ProgG} (hpr : progB p = true) {t : TermG} {e : EnvG} {k : FrmG} (h : OkK p.ds p.fs (.cas t e k)) {v : ValG} (hv : OkV p.ds p.fs v) :
    ∀ ty n args, v = .con ty n args → ty = t.ty → 0 ≤ n ∧ ∃ c, t.cls[n.toNat]? = some c ∧ c.names.length ≤ args.length ∧ c.names.length ≤ 6 := by
  rintro ty n args rfl rfl
  cases h with | cas _ _ _ V L ho hc hva he hk =>
  cases hv with | con _ _ _ hh hl ha =>
  have hn := u_node hva
  simp [nodeB, ho] at hn
  obtain ⟨c, hcl, hcn⟩ := ucls_at hn.2 (has_xtor hh)
  have := xtor_small hpr t.ty n
  simp only [hasN, Bool.and_eq_true, decide_eq_true_eq] at hh
  exact ⟨hh.1.2, c, hcl, by rw [hcn, hl, prodN_len]; exact Nat.le_refl _, by omega⟩
theorem okk_obs {p : ProgG} (hpr : progB p = true) {t : TermG} {e : EnvG} {got : List BndG} {k : FrmG} (h : OkK p.ds p.fs (.obs t e got k)) {v : ValG} (hv : OkV p.ds p.fs v) :
    ∀ t' e', v = .obj t' e' → t'.ty = t.ty → 0 ≤ t.n ∧ ∃ c, t'.cls[t.n.toNat]? = some c ∧ c.names.length ≤ got.length ∧ c.names.length ≤ 6 := by
  rintro t' e' rfl hty
  cases h with | obs _ _ _ _ V L ho hva hg hl hk =>
  cases hv with | obj _ _ V' L' ho' hc' hva' he' =>
  have hn := u_node hva
  have hn' := u_node hva'
  simp [nodeB, ho] at hn
  simp [nodeB, ho'] at hn'
  have hh := hn.1.1.1.2
  rw [hty] at hn'
  obtain ⟨c, hcl, hcn⟩ := ucls_at hn'.2 (has_xtor hh)
  have := xtor_small hpr t.ty t.n
  simp only [hasN, Bool.and_eq_true, decide_eq_true_eq] at hh
  exact ⟨hh.1.2, c, hcl, by rw [hcn, hl, typesG, if_pos (.inr ho), prodN_len]; exact Nat.le_refl _, by omega⟩
theorem okk_tst {p : ProgG} {t : TermG} {e : EnvG} {k : FrmG} (h : OkK p.ds p.fs (.tst t e k)) : (t.op = 3 ∧ t.args.length = 3) ∨ (t.op = 10 ∧ t.args.length = 2) := by
  cases h with | tst _ _ _ V L ho hc hv he hk =>
  have hn := u_node hv
  rcases ho with o | o <;> simp [nodeB, o] at hn
  · exact .inl ⟨o, hn.1.2⟩
  · exact .inr ⟨o, hn.1.2⟩
theorem OutR.tup {p : ProgG} {fuel : Int} {b : Nat} {hp : Hp} {l2 : List (TypeId × Nat × Value)} {s : MS} {o : OutG} {r : AV} {hp' : Hp} (h : OutR p fuel b hp l2 s o r hp') : r = .tup [] := by
  cases o with
  | go c => exact h.1
  | emit n c => exact h.1
  | fin a c => exact h.1
/-- A value is passed on. -/
theorem pass_calls (b : Nat) (p : ProgG) (hpr : progB p = true) (fuel : Int) (s : MS) (l2 : List (TypeId × Nat × Value)) {v : ValG} {k : FrmG} (hs : CtlP (.gv v k) s) (ok : OkC p.ds p.fs (.gv v k)) (hlen : s.outs.length ≤ 30000) (hp : Hp) (hb : hp.blk b = some (75, s.cs p fuel)) (hsp : hp.sp = (3, 1, s.oh) :: l2) :
    ACalls Tryz.prog 36 [ptr0 b] hp (OutR p fuel b hp l2 s (passG p.ds p.fs v k)) := by
  obtain ⟨hgv, hva, hka⟩ := hs
  obtain ⟨okv, okk⟩ := ok
  have hbm := hb
  simp only [MS.cs] at hbm
  refine acalls_of Tryz.func36 rfl (by decide +kernel) (awp_sound (mu := []) _ _ _ ?_)
  generalize hka0 : s.ka = ka at hka hbm
  generalize hva0 : s.va = va at hva hbm
  have hka' := hka
  cases hka with
  | nil =>
    simp only [go_sem, Nat.reduceEqDiff, Nat.reduceAdd, Nat.reduceSub, Nat.reduceLT, Nat.reduceBEq, Nat.reduceLeDiff, ↓reduceIte, Int.reduceToNat, Int.reduceLE, Int.reduceLT, Int.reduceEq, reduceCtorEq, ptr0, hbm]
    rcases hva.ints with ⟨n, rfl, rfl⟩ | ⟨hni, u, a, hu, rfl⟩
    · refine assertYes_by (a := .v (.int .i64 n)) (by decide +kernel) (by simp [go_sem, hbm]) (by simp [go_sem]) ?_
      simp only [go_sem, Nat.reduceEqDiff, Nat.reduceAdd, Nat.reduceSub, Nat.reduceLT, Nat.reduceBEq, Nat.reduceLeDiff, ↓reduceIte, Int.reduceToNat, Int.reduceLE, Int.reduceLT, Int.reduceEq, reduceCtorEq]
      have c := mend_calls b p fuel s 0 n hp hb
      simp only [ptr0] at c
      refine callX_by c ?_
      rintro r hp2 ⟨rfl, rfl⟩
      exact ret_same ⟨rfl, rfl⟩
    · refine assertNo_by (u := u) (a := a) (z := .v (.int .i64 0)) (by decide +kernel) Tryz.z3 (fun _ => trivial) (by simp [go_sem, hbm]) hu (by simp [go_sem]) ?_
      simp only [go_sem, Nat.reduceEqDiff, Nat.reduceAdd, Nat.reduceSub, Nat.reduceLT, Nat.reduceBEq, Nat.reduceLeDiff, ↓reduceIte, Int.reduceToNat, Int.reduceLE, Int.reduceLT, Int.reduceEq, reduceCtorEq]
      have hpass : passG p.ds p.fs v .nil = .fin 2 0 := by
        cases v with
        | con ty n args => rfl
        | int n => cases hni
        | obj t' e' => rfl
      rw [hpass]
      refine callX_by (ms_end b p fuel s hp hb) ?_
      rintro r hp2 ⟨rfl, rfl⟩
      exact ret_same ⟨rfl, rfl⟩
  | app t e got k ea ka h q gs he hg hk =>
    simp only [go_sem, Nat.reduceEqDiff, Nat.reduceAdd, Nat.reduceSub, Nat.reduceLT, Nat.reduceBEq, Nat.reduceLeDiff, ↓reduceIte, Int.reduceToNat, Int.reduceLE, Int.reduceLT, Int.reduceEq, reduceCtorEq, ptr0, hbm]
    refine draw_by (mu := []) (fun _ => True) (.take 0 (.take 1 (.take 2 (.take 7 (.take 8 (.take 9 (.take 10 (.take 12 (.take 13 (.take 14 (.br 3 (.take 4 (.take 5 (.take 6 (.take 16 (.take 17 (.br 11 (.br 15 (.br 18 (.done) (.stop)) (.stop)) (.br 15 (.br 11 (.br 18 (.done) (.stop)) (.stop)) (.stop)))))))) (.br 11 (.br 3 (.take 4 (.take 5 (.take 6 (.take 16 (.take 17 (.br 15 (.br 18 (.done) (.stop)) (.stop))))))) (.br 15 (.br 3 (.take 4 (.take 5 (.take 6 (.take 16 (.take 17 (.br 18 (.done) (.stop))))))) (.stop)) (.stop))) (.br 15 (.br 3 (.take 4 (.take 5 (.take 6 (.take 16 (.take 17 (.br 11 (.br 18 (.done) (.stop)) (.stop))))))) (.br 11 (.br 3 (.take 4 (.take 5 (.take 6 (.take 16 (.take 17 (.br 18 (.done) (.stop))))))) (.stop)) (.stop))) (.stop)))))))))))))) (by decide +kernel) trivial (by decide +kernel) (by decide +kernel) ?_
    simp (maxSteps := 8000000) only [go_sem, Nat.reduceEqDiff, Nat.reduceAdd, Nat.reduceSub, Nat.reduceLT, Nat.reduceBEq, Nat.reduceLeDiff, ↓reduceIte, Int.reduceToNat, Int.reduceLE, Int.reduceLT, Int.reduceEq, reduceCtorEq, hbm]
    have c := (let ⟨V, L, oa, hl, hi⟩ := okk_app hpr okk; recv_app_calls b p fuel s l2 hva oa hka' hl hi hp hb)
    simp only [ptr0] at c
    repeat' (first | exact rfl | trivial | with_reducible refine And.intro ?_ ?_)
    all_goals
      refine invoke_by (fo := ⟨⟩) (fk := ⟨⟩) (t := 217) (a := .agg []) (b := .agg []) (xs := _) (f := 270) (by simp [go_sem]) (fun w => by kernel_rfl) (fun m h => h) (by simp only [evs_evL, go_sem, Nat.reduceEqDiff, Nat.reduceAdd, Nat.reduceSub, Nat.reduceLT, Nat.reduceBEq, Nat.reduceLeDiff, ↓reduceIte, Int.reduceToNat, Int.reduceLE, Int.reduceLT, Int.reduceEq, reduceCtorEq]) (by simp [go_sem]) c (fun y hp' hy => ?_)
      simp only [go_sem, Nat.reduceEqDiff, Nat.reduceAdd, Nat.reduceSub, Nat.reduceLT, Nat.reduceBEq, Nat.reduceLeDiff, ↓reduceIte, Int.reduceToNat, Int.reduceLE, Int.reduceLT, Int.reduceEq, reduceCtorEq]
      exact ret_same (by rw [hy.tup] at hy; exact hy)
  | obs t e got k ea ka h q gs he hg hk =>
    simp only [go_sem, Nat.reduceEqDiff, Nat.reduceAdd, Nat.reduceSub, Nat.reduceLT, Nat.reduceBEq, Nat.reduceLeDiff, ↓reduceIte, Int.reduceToNat, Int.reduceLE, Int.reduceLT, Int.reduceEq, reduceCtorEq, ptr0, hbm]
    refine draw_by (mu := []) (fun _ => True) (.take 0 (.take 1 (.take 2 (.take 7 (.take 8 (.take 9 (.take 10 (.take 12 (.take 13 (.take 14 (.br 3 (.take 4 (.take 5 (.take 6 (.take 16 (.take 17 (.br 11 (.br 15 (.br 18 (.done) (.stop)) (.stop)) (.br 15 (.br 11 (.br 18 (.done) (.stop)) (.stop)) (.stop)))))))) (.br 11 (.br 3 (.take 4 (.take 5 (.take 6 (.take 16 (.take 17 (.br 15 (.br 18 (.done) (.stop)) (.stop))))))) (.br 15 (.br 3 (.take 4 (.take 5 (.take 6 (.take 16 (.take 17 (.br 18 (.done) (.stop))))))) (.stop)) (.stop))) (.br 15 (.br 3 (.take 4 (.take 5 (.take 6 (.take 16 (.take 17 (.br 11 (.br 18 (.done) (.stop)) (.stop))))))) (.br 11 (.br 3 (.take 4 (.take 5 (.take 6 (.take 16 (.take 17 (.br 18 (.done) (.stop))))))) (.stop)) (.stop))) (.stop)))))))))))))) (by decide +kernel) trivial (by decide +kernel) (by decide +kernel) ?_
    simp (maxSteps := 8000000) only [go_sem, Nat.reduceEqDiff, Nat.reduceAdd, Nat.reduceSub, Nat.reduceLT, Nat.reduceBEq, Nat.reduceLeDiff, ↓reduceIte, Int.reduceToNat, Int.reduceLE, Int.reduceLT, Int.reduceEq, reduceCtorEq, hbm]
    have c := recv_obs_calls b p fuel s l2 hva hka' (okk_obs hpr okk okv) hp hb
    simp only [ptr0] at c
    repeat' (first | exact rfl | trivial | with_reducible refine And.intro ?_ ?_)
    all_goals
      refine invoke_by (fo := ⟨⟩) (fk := ⟨⟩) (t := 253) (a := .agg []) (b := .agg []) (xs := _) (f := 271) (by simp [go_sem]) (fun w => by kernel_rfl) (fun m h => h) (by simp only [evs_evL, go_sem, Nat.reduceEqDiff, Nat.reduceAdd, Nat.reduceSub, Nat.reduceLT, Nat.reduceBEq, Nat.reduceLeDiff, ↓reduceIte, Int.reduceToNat, Int.reduceLE, Int.reduceLT, Int.reduceEq, reduceCtorEq]) (by simp [go_sem]) c (fun y hp' hy => ?_)
      simp only [go_sem, Nat.reduceEqDiff, Nat.reduceAdd, Nat.reduceSub, Nat.reduceLT, Nat.reduceBEq, Nat.reduceLeDiff, ↓reduceIte, Int.reduceToNat, Int.reduceLE, Int.reduceLT, Int.reduceEq, reduceCtorEq]
      exact ret_same (by rw [hy.tup] at hy; exact hy)
  | cas t e k ea ka g q he hk =>
    simp only [go_sem, Nat.reduceEqDiff, Nat.reduceAdd, Nat.reduceSub, Nat.reduceLT, Nat.reduceBEq, Nat.reduceLeDiff, ↓reduceIte, Int.reduceToNat, Int.reduceLE, Int.reduceLT, Int.reduceEq, reduceCtorEq, ptr0, hbm]
    refine draw_by (mu := []) (fun _ => True) (.take 0 (.take 1 (.take 2 (.take 7 (.take 8 (.take 9 (.take 10 (.take 12 (.take 13 (.take 14 (.br 3 (.take 4 (.take 5 (.take 6 (.take 16 (.take 17 (.br 11 (.br 15 (.br 18 (.done) (.stop)) (.stop)) (.br 15 (.br 11 (.br 18 (.done) (.stop)) (.stop)) (.stop)))))))) (.br 11 (.br 3 (.take 4 (.take 5 (.take 6 (.take 16 (.take 17 (.br 15 (.br 18 (.done) (.stop)) (.stop))))))) (.br 15 (.br 3 (.take 4 (.take 5 (.take 6 (.take 16 (.take 17 (.br 18 (.done) (.stop))))))) (.stop)) (.stop))) (.br 15 (.br 3 (.take 4 (.take 5 (.take 6 (.take 16 (.take 17 (.br 11 (.br 18 (.done) (.stop)) (.stop))))))) (.br 11 (.br 3 (.take 4 (.take 5 (.take 6 (.take 16 (.take 17 (.br 18 (.done) (.stop))))))) (.stop)) (.stop))) (.stop)))))))))))))) (by decide +kernel) trivial (by decide +kernel) (by decide +kernel) ?_
    simp (maxSteps := 8000000) only [go_sem, Nat.reduceEqDiff, Nat.reduceAdd, Nat.reduceSub, Nat.reduceLT, Nat.reduceBEq, Nat.reduceLeDiff, ↓reduceIte, Int.reduceToNat, Int.reduceLE, Int.reduceLT, Int.reduceEq, reduceCtorEq, hbm]
    have c := recv_cas_calls b p fuel s l2 hva hka' (okk_cas hpr okk okv) hp hb
    simp only [ptr0] at c
    repeat' (first | exact rfl | trivial | with_reducible refine And.intro ?_ ?_)
    all_goals
      refine invoke_by (fo := ⟨⟩) (fk := ⟨⟩) (t := 165) (a := .agg []) (b := .agg []) (xs := _) (f := 269) (by simp [go_sem]) (fun w => by kernel_rfl) (fun m h => h) (by simp only [evs_evL, go_sem, Nat.reduceEqDiff, Nat.reduceAdd, Nat.reduceSub, Nat.reduceLT, Nat.reduceBEq, Nat.reduceLeDiff, ↓reduceIte, Int.reduceToNat, Int.reduceLE, Int.reduceLT, Int.reduceEq, reduceCtorEq]) (by simp [go_sem]) c (fun y hp' hy => ?_)
      simp only [go_sem, Nat.reduceEqDiff, Nat.reduceAdd, Nat.reduceSub, Nat.reduceLT, Nat.reduceBEq, Nat.reduceLeDiff, ↓reduceIte, Int.reduceToNat, Int.reduceLE, Int.reduceLT, Int.reduceEq, reduceCtorEq]
      exact ret_same (by rw [hy.tup] at hy; exact hy)
  | tst t e k ea ka g q he hk =>
    simp only [go_sem, Nat.reduceEqDiff, Nat.reduceAdd, Nat.reduceSub, Nat.reduceLT, Nat.reduceBEq, Nat.reduceLeDiff, ↓reduceIte, Int.reduceToNat, Int.reduceLE, Int.reduceLT, Int.reduceEq, reduceCtorEq, ptr0, hbm]
    refine draw_by (mu := []) (fun _ => True) (.take 0 (.take 1 (.take 2 (.take 7 (.take 8 (.take 9 (.take 10 (.take 12 (.take 13 (.take 14 (.br 3 (.take 4 (.take 5 (.take 6 (.take 16 (.take 17 (.br 11 (.br 15 (.br 18 (.done) (.stop)) (.stop)) (.br 15 (.br 11 (.br 18 (.done) (.stop)) (.stop)) (.stop)))))))) (.br 11 (.br 3 (.take 4 (.take 5 (.take 6 (.take 16 (.take 17 (.br 15 (.br 18 (.done) (.stop)) (.stop))))))) (.br 15 (.br 3 (.take 4 (.take 5 (.take 6 (.take 16 (.take 17 (.br 18 (.done) (.stop))))))) (.stop)) (.stop))) (.br 15 (.br 3 (.take 4 (.take 5 (.take 6 (.take 16 (.take 17 (.br 11 (.br 18 (.done) (.stop)) (.stop))))))) (.br 11 (.br 3 (.take 4 (.take 5 (.take 6 (.take 16 (.take 17 (.br 18 (.done) (.stop))))))) (.stop)) (.stop))) (.stop)))))))))))))) (by decide +kernel) trivial (by decide +kernel) (by decide +kernel) ?_
    simp (maxSteps := 8000000) only [go_sem, Nat.reduceEqDiff, Nat.reduceAdd, Nat.reduceSub, Nat.reduceLT, Nat.reduceBEq, Nat.reduceLeDiff, ↓reduceIte, Int.reduceToNat, Int.reduceLE, Int.reduceLT, Int.reduceEq, reduceCtorEq, hbm]
    have c := recv_tst_calls b p fuel s l2 hva hka' (okk_tst okk) hlen hp hb hsp
    simp only [ptr0] at c
    repeat' (first | exact rfl | trivial | with_reducible refine And.intro ?_ ?_)
    all_goals
      refine invoke_by (fo := ⟨⟩) (fk := ⟨⟩) (t := 164) (a := .agg []) (b := .agg []) (xs := _) (f := 268) (by simp [go_sem]) (fun w => by kernel_rfl) (fun m h => h) (by simp only [evs_evL, go_sem, Nat.reduceEqDiff, Nat.reduceAdd, Nat.reduceSub, Nat.reduceLT, Nat.reduceBEq, Nat.reduceLeDiff, ↓reduceIte, Int.reduceToNat, Int.reduceLE, Int.reduceLT, Int.reduceEq, reduceCtorEq]) (by simp [go_sem]) c (fun y hp' hy => ?_)
      simp only [go_sem, Nat.reduceEqDiff, Nat.reduceAdd, Nat.reduceSub, Nat.reduceLT, Nat.reduceBEq, Nat.reduceLeDiff, ↓reduceIte, Int.reduceToNat, Int.reduceLE, Int.reduceLT, Int.reduceEq, reduceCtorEq]
      exact ret_same (by rw [hy.tup] at hy; exact hy)
end Go.Proofs.YtkoachnlimebaaaGreatDoor
/- Direct evaluation: a step. -/
set_option linter.unusedSimpArgs false
set_option linter.unusedVariables false
set_option maxRecDepth 20000
set_option maxHeartbeats 4000000
namespace Go.Proofs.YtkoachnlimebaaaGreatDoor
open Go.AL

/-- A step. -/
def StepR (p : ProgG) (fuel : Int) (b : Nat) (hp : Hp) (s : MS) (c : Ctl) (r : AV) (hp' : Hp) : Prop :=
  if s.steps = fuel then r = .tup [] ∧ hp' = hp.setBlk b 75 (({ s with how := 1, val := 0, over := true } : MS).cs p fuel)
  else MvR p fuel b hp { s with steps := s.steps + 1 } c r hp'
theorem mvR_set {p : ProgG} {fuel : Int} {b : Nat} {hp : Hp} {T : TypeId} {cs : List AV} {s : MS} {c : Ctl} {r : AV} {hp' : Hp} (hT : T = 75) (h : MvR p fuel b (hp.setBlk b T cs) s c r hp') : MvR p fuel b hp s c r hp' := by
  subst hT
  obtain ⟨rfl, s', rfl, h⟩ := h
  exact ⟨rfl, s', by rw [Hp.set_set], h⟩
theorem mvR_X {p : ProgG} {fuel : Int} {b : Nat} {hp X : Hp} {T : TypeId} {cs : List AV} {s : MS} {c : Ctl} {r : AV} {hp' : Hp} (hT : T = 75) (hX : X = hp.setBlk b T cs) (h : MvR p fuel b X s c r hp') : MvR p fuel b hp s c r hp' := by
  subst hX; exact mvR_set hT h
theorem stepR_of {p : ProgG} {fuel : Int} {b : Nat} {hp : Hp} {s : MS} {c : Ctl} {r : AV} {hp' : Hp} (hne : ¬ s.steps = fuel) (h : MvR p fuel b hp { s with steps := s.steps + 1 } c r hp') : StepR p fuel b hp s c r hp' := by rw [StepR, if_neg hne]; exact h
theorem evalG_app {ds : List DeclG} {fs : List FunG} {t : TermG} {e : EnvG} {k : FrmG} (h : isApp t) : evalG ds fs t e k = applyG ds fs t e [] k := by
  unfold evalG
  rcases h with o | o | o | o | o <;> simp [o]
theorem step_calls (b : Nat) (p : ProgG) (hpr : progB p = true) (fuel : Int) (s : MS) {t : TermG} {e : EnvG} {k : FrmG} (hs : CtlP (.ev t e k) s) (ok : OkC p.ds p.fs (.ev t e k)) (h0 : 0 ≤ s.steps) (h1 : s.steps ≤ 30000) (hp : Hp) (hb : hp.blk b = some (75, s.cs p fuel)) :
    ACalls Tryz.prog 37 [ptr0 b] hp (StepR p fuel b hp s (evalG p.ds p.fs t e k)) := by
  obtain ⟨hgv, rfl, he, hk⟩ := hs
  obtain ⟨⟨V, L, hcov, hva⟩, oke, okk⟩ := ok
  have hn := u_node hva
  have hbm := hb
  simp only [MS.cs] at hbm
  have ea1 := ((AV.cells.eq_1 _).symm.trans he.o.cells); have ea2 := he.o.one
  have ka1 := ((AV.cells.eq_1 _).symm.trans hk.o.cells); have ka2 := hk.o.one
  refine acalls_of Tryz.func37 rfl (by decide +kernel) (awp_sound (mu := [26]) _ _ _ ?_)
  simp only [go_sem, Nat.reduceEqDiff, Nat.reduceAdd, Nat.reduceSub, Nat.reduceLT, Nat.reduceMul, Nat.reduceBEq, Nat.reduceLeDiff, ↓reduceIte, Int.reduceToNat, Nat.reduceGT, Int.reduceLE, Int.reduceLT, Int.reduceGE, Int.reduceGT, Int.reduceEq, Int.reduceNe, reduceCtorEq, ptr0]
  refine draw_by (mu := [26]) (fun h => h.blk b = some (75, s.cs p fuel)) (.take 0 (.take 1 (.take 2 (.take 3 (.take 4 (.take 5 (.take 6 (.take 7 (.take 8 (.take 9 (.done))))))))))) (by decide +kernel) hb (by decide +kernel) (by decide +kernel) ?_
  simp only [go_sem, Nat.reduceEqDiff, Nat.reduceAdd, Nat.reduceSub, Nat.reduceLT, Nat.reduceMul, Nat.reduceBEq, Nat.reduceLeDiff, ↓reduceIte, Int.reduceToNat, Nat.reduceGT, Int.reduceLE, Int.reduceLT, Int.reduceGE, Int.reduceGT, Int.reduceEq, Int.reduceNe, reduceCtorEq, hbm]
  refine ⟨fun h e => by rw [e]; simp only [go_sem, Nat.reduceEqDiff, Nat.reduceAdd, Nat.reduceSub, Nat.reduceLT, Nat.reduceMul, Nat.reduceBEq, Nat.reduceLeDiff, ↓reduceIte, Int.reduceToNat, Nat.reduceGT, Int.reduceLE, Int.reduceLT, Int.reduceGE, Int.reduceGT, Int.reduceEq, Int.reduceNe, reduceCtorEq, MS.cs], fun h e => by rw [e]; simp only [go_sem, Nat.reduceEqDiff, Nat.reduceAdd, Nat.reduceSub, Nat.reduceLT, Nat.reduceMul, Nat.reduceBEq, Nat.reduceLeDiff, ↓reduceIte, Int.reduceToNat, Nat.reduceGT, Int.reduceLE, Int.reduceLT, Int.reduceGE, Int.reduceGT, Int.reduceEq, Int.reduceNe, reduceCtorEq, MS.cs], ?_⟩
  refine brK_mk (fun g => ?_) (fun g => ?_) <;> simp only [go_sem, Nat.reduceEqDiff, Nat.reduceAdd, Nat.reduceSub, Nat.reduceLT, Nat.reduceMul, Nat.reduceBEq, Nat.reduceLeDiff, ↓reduceIte, Int.reduceToNat, Nat.reduceGT, Int.reduceLE, Int.reduceLT, Int.reduceGE, Int.reduceGT, Int.reduceEq, Int.reduceNe, reduceCtorEq, g]
  · have c := mend_calls b p fuel s 1 0 hp hb
    simp only [ptr0] at c
    refine callX_by c ?_
    rintro r hp2 ⟨rfl, rfl⟩
    refine ret_same ?_
    rw [StepR, if_pos (of_decide_eq_true g)]
    exact ⟨rfl, rfl⟩
  have hne : ¬ s.steps = fuel := of_decide_eq_false g
  have hwu : IntKind.i64.wrap (s.steps + 1) = s.steps + 1 := IntWalk.i64_in _ (by omega)
  simp only [go_sem, Nat.reduceEqDiff, Nat.reduceAdd, Nat.reduceSub, Nat.reduceLT, Nat.reduceMul, Nat.reduceBEq, Nat.reduceLeDiff, ↓reduceIte, Int.reduceToNat, Nat.reduceGT, Int.reduceLE, Int.reduceLT, Int.reduceGE, Int.reduceGT, Int.reduceEq, Int.reduceNe, reduceCtorEq, hbm, hwu]
  obtain ⟨X, hX⟩ : ∃ X, X = hp.setBlk b 75 (MS.cs p fuel { s with steps := s.steps + 1 }) := ⟨_, rfl⟩
  have hXr := hX.symm
  simp only [MS.cs] at hXr
  rw [hXr]
  have hs1 : X.blk b = some (75, MS.cs p fuel { s with steps := s.steps + 1 }) := by rw [hX]; exact ms_fz ..
  have hbX := hs1
  simp only [MS.cs] at hbX
  refine draw_by (mu := [26]) (fun h => h.blk b = some (75, MS.cs p fuel { s with steps := s.steps + 1 })) (.take 0 (.take 1 (.take 2 (.take 3 (.take 4 (.take 5 (.take 6 (.take 7 (.take 8 (.take 9 (.take 10 (.take 11 (.br 12 (.br 13 (.take 14 (.take 15 (.done))) (.stop)) (.stop)))))))))))))) (by decide +kernel) hs1 (by decide +kernel) (by decide +kernel) ?_
  simp only [go_sem, Nat.reduceEqDiff, Nat.reduceAdd, Nat.reduceSub, Nat.reduceLT, Nat.reduceMul, Nat.reduceBEq, Nat.reduceLeDiff, ↓reduceIte, Int.reduceToNat, Nat.reduceGT, Int.reduceLE, Int.reduceLT, Int.reduceGE, Int.reduceGT, Int.reduceEq, Int.reduceNe, reduceCtorEq, hbX]
  refine ⟨fun h e => by rw [e]; simp only [go_sem, Nat.reduceEqDiff, Nat.reduceAdd, Nat.reduceSub, Nat.reduceLT, Nat.reduceMul, Nat.reduceBEq, Nat.reduceLeDiff, ↓reduceIte, Int.reduceToNat, Nat.reduceGT, Int.reduceLE, Int.reduceLT, Int.reduceGE, Int.reduceGT, Int.reduceEq, Int.reduceNe, reduceCtorEq, MS.cs], fun h e => by rw [e]; simp only [go_sem, Nat.reduceEqDiff, Nat.reduceAdd, Nat.reduceSub, Nat.reduceLT, Nat.reduceMul, Nat.reduceBEq, Nat.reduceLeDiff, ↓reduceIte, Int.reduceToNat, Nat.reduceGT, Int.reduceLE, Int.reduceLT, Int.reduceGE, Int.reduceGT, Int.reduceEq, Int.reduceNe, reduceCtorEq, MS.cs], fun h e => by rw [e]; simp only [go_sem, Nat.reduceEqDiff, Nat.reduceAdd, Nat.reduceSub, Nat.reduceLT, Nat.reduceMul, Nat.reduceBEq, Nat.reduceLeDiff, ↓reduceIte, Int.reduceToNat, Nat.reduceGT, Int.reduceLE, Int.reduceLT, Int.reduceGE, Int.reduceGT, Int.reduceEq, Int.reduceNe, reduceCtorEq, MS.cs], fun b2 hb2 => ?_⟩
  have nb : (b = b2) = False := eq_false (by rintro rfl; have := hb2.1; rw [hs1] at this; cases this)
  have hds2 := fun T cs => Hp.del_set _ _ T cs hb2.1
  simp only [go_sem, Nat.reduceEqDiff, Nat.reduceAdd, Nat.reduceSub, Nat.reduceLT, Nat.reduceMul, Nat.reduceBEq, Nat.reduceLeDiff, ↓reduceIte, Int.reduceToNat, Nat.reduceGT, Int.reduceLE, Int.reduceLT, Int.reduceGE, Int.reduceGT, Int.reduceEq, Int.reduceNe, reduceCtorEq, nb, hds2, hbX]
  refine ⟨rfl, rfl, ?_⟩
  rcases op_cases hn with o | o | o | o | o | o | o | o | o | o | o | o | o
  · simp [nodeB, o] at hn
    obtain ⟨bd, hbd⟩ := hcov.1 s.t.name hn.2
    simp only [go_sem, Nat.reduceEqDiff, Nat.reduceAdd, Nat.reduceSub, Nat.reduceLT, Nat.reduceMul, Nat.reduceBEq, Nat.reduceLeDiff, ↓reduceIte, Int.reduceToNat, Nat.reduceGT, Int.reduceLE, Int.reduceLT, Int.reduceGE, Int.reduceGT, Int.reduceEq, Int.reduceNe, reduceCtorEq, hds2, o, decide_true]
    refine callX_by (findV_calls e s.ea he s.t.name _) ?_
    rintro r hp2 ⟨rfl, hf⟩
    obtain ⟨x0, u, v, x3, x4, hPB, rfl⟩ := hf bd hbd
    have u1 := ((AV.cells.eq_1 _).symm.trans hPB.o.1.cells); have u2 := hPB.o.1.one; have v1 := ((AV.cells.eq_1 _).symm.trans hPB.o.2.cells); have v2 := hPB.o.2.one
    simp only [go_sem, Nat.reduceEqDiff, Nat.reduceAdd, Nat.reduceSub, Nat.reduceLT, Nat.reduceMul, Nat.reduceBEq, Nat.reduceLeDiff, ↓reduceIte, Int.reduceToNat, Nat.reduceGT, Int.reduceLE, Int.reduceLT, Int.reduceGE, Int.reduceGT, Int.reduceEq, Int.reduceNe, reduceCtorEq, hds2, u1, u2, v1, v2]
    intro b5 hb5
    have hds5 := fun T cs => Hp.del_set _ _ T cs hb5.1
    simp only [go_sem, Nat.reduceEqDiff, Nat.reduceAdd, Nat.reduceSub, Nat.reduceLT, Nat.reduceMul, Nat.reduceBEq, Nat.reduceLeDiff, ↓reduceIte, Int.reduceToNat, Nat.reduceGT, Int.reduceLE, Int.reduceLT, Int.reduceGE, Int.reduceGT, Int.reduceEq, Int.reduceNe, reduceCtorEq, hds2, hds5]
    cases hPB with
    | val w a hw =>
      have hev : evalG p.ds p.fs s.t e k = .gv w k := by unfold evalG; rw [if_pos o, hbd]
      rw [hev]
      simp only [go_sem, Nat.reduceEqDiff, Nat.reduceAdd, Nat.reduceSub, Nat.reduceLT, Nat.reduceMul, Nat.reduceBEq, Nat.reduceLeDiff, ↓reduceIte, Int.reduceToNat, Nat.reduceGT, Int.reduceLE, Int.reduceLT, Int.reduceGE, Int.reduceGT, Int.reduceEq, Int.reduceNe, reduceCtorEq, hds2]
      have c := mgive_calls b p fuel { s with steps := s.steps + 1 } u s.ka hw.o hk.o _ hs1
      simp only [ptr0] at c
      refine callX_by c ?_
      rintro r hp2 ⟨rfl, rfl⟩
      exact ret_same (stepR_of hne <| mvR_X rfl hX ⟨rfl, _, rfl, rfl, rfl, rfl, rfl, rfl, rfl, ⟨rfl, hw, hk⟩⟩)
    | thunk t' e' ea' q' he' =>
      have hev : evalG p.ds p.fs s.t e k = .ev t' e' k := by unfold evalG; rw [if_pos o, hbd]
      rw [hev]
      simp only [go_sem, Nat.reduceEqDiff, Nat.reduceAdd, Nat.reduceSub, Nat.reduceLT, Nat.reduceMul, Nat.reduceBEq, Nat.reduceLeDiff, ↓reduceIte, Int.reduceToNat, Nat.reduceGT, Int.reduceLE, Int.reduceLT, Int.reduceGE, Int.reduceGT, Int.reduceEq, Int.reduceNe, reduceCtorEq, hds2]
      refine draw_by (mu := [26]) (fun _ => True) (.take 0 (.take 1 (.take 2 (.take 3 (.take 4 (.take 5 (.take 6 (.take 7 (.take 8 (.take 9 (.take 10 (.take 11 (.br 12 (.done) (.stop)))))))))))))) (by decide +kernel) trivial (by decide +kernel) (by decide +kernel) ?_
      simp only [go_sem, Nat.reduceEqDiff, Nat.reduceAdd, Nat.reduceSub, Nat.reduceLT, Nat.reduceMul, Nat.reduceBEq, Nat.reduceLeDiff, ↓reduceIte, Int.reduceToNat, Nat.reduceGT, Int.reduceLE, Int.reduceLT, Int.reduceGE, Int.reduceGT, Int.reduceEq, Int.reduceNe, reduceCtorEq, hds2]
      have c := meval_calls b p fuel { s with steps := s.steps + 1 } t' ea' s.ka he'.o hk.o _ hs1
      simp only [ptr0, TermG.av, TermG.cs_eq] at c
      refine callX_by c ?_
      rintro r hp2 ⟨rfl, rfl⟩
      exact ret_same (stepR_of hne <| mvR_X rfl hX ⟨rfl, _, rfl, rfl, rfl, rfl, rfl, rfl, rfl, ⟨rfl, rfl, he', hk⟩⟩)
  · have hev : evalG p.ds p.fs s.t e k = .gv (.int s.t.n) k := by unfold evalG; simp [o]
    rw [hev]
    simp only [go_sem, Nat.reduceEqDiff, Nat.reduceAdd, Nat.reduceSub, Nat.reduceLT, Nat.reduceMul, Nat.reduceBEq, Nat.reduceLeDiff, ↓reduceIte, Int.reduceToNat, Nat.reduceGT, Int.reduceLE, Int.reduceLT, Int.reduceGE, Int.reduceGT, Int.reduceEq, Int.reduceNe, reduceCtorEq, hds2, o, decide_false, decide_true]
    have c := mgive_calls b p fuel { s with steps := s.steps + 1 } (.ifc 3 (.v (.int .i64 s.t.n))) s.ka ⟨rfl, rfl⟩ hk.o _ hs1
    simp only [ptr0] at c
    refine callX_by c ?_
    rintro r hp2 ⟨rfl, rfl⟩
    exact ret_same (stepR_of hne <| mvR_X rfl hX ⟨rfl, _, rfl, rfl, rfl, rfl, rfl, rfl, rfl, ⟨rfl, .int _, hk⟩⟩)
  · have hap : isApp s.t := by simp [isApp, o]
    rw [evalG_app hap]
    have c := fun (X : Hp) hX => acalls_cast (args := [ptr0 b, s.t.av, s.ea, .lst 2 (.slice none 0 0) [], s.ka]) (args' := [ptr0 b, s.t.av, s.ea, .v (.slice none 0 0), s.ka]) rfl (fun m h => ⟨h.1, h.2.1, h.2.2.1, (Cast.nil 2).2 m trivial, h.2.2.2.2⟩) (apply_calls b p fuel { s with steps := s.steps + 1 } s.t (V := V) (L := L) ⟨hpr, hva, hap⟩ he (got := []) (.slice none 0 0) .nil hk (Nat.zero_le _) (fun _ b hb => by cases hb) X hX)
    simp only [ptr0, TermG.av, TermG.cs_eq, o] at c
    simp only [go_sem, Nat.reduceEqDiff, Nat.reduceAdd, Nat.reduceSub, Nat.reduceLT, Nat.reduceMul, Nat.reduceBEq, Nat.reduceLeDiff, ↓reduceIte, Int.reduceToNat, Nat.reduceGT, Int.reduceLE, Int.reduceLT, Int.reduceGE, Int.reduceGT, Int.reduceEq, Int.reduceNe, reduceCtorEq, hds2, o, decide_false, decide_true]
    refine callX_by (c _ hs1) ?_
    intro r hp2 hR
    obtain ⟨rfl, s', rfl, hR⟩ := hR
    exact ret_same (stepR_of hne <| mvR_X rfl hX ⟨rfl, s', rfl, hR⟩)
  · simp [nodeB, o] at hn
    obtain ⟨a, ha⟩ := someAt s.t.args 0 (by omega)
    have hev : evalG p.ds p.fs s.t e k = .ev a e (.tst s.t e k) := by
      unfold evalG; simp [o, argK', ha]
    rw [hev]
    simp only [go_sem, Nat.reduceEqDiff, Nat.reduceAdd, Nat.reduceSub, Nat.reduceLT, Nat.reduceMul, Nat.reduceBEq, Nat.reduceLeDiff, ↓reduceIte, Int.reduceToNat, Nat.reduceGT, Int.reduceLE, Int.reduceLT, Int.reduceGE, Int.reduceGT, Int.reduceEq, Int.reduceNe, reduceCtorEq, hds2, o, decide_false, decide_true]
    refine draw_by (mu := [26]) (fun _ => True) (.take 0 (.take 1 (.take 2 (.take 3 (.take 4 (.take 5 (.take 8 (.take 9 (.take 10 (.br 6 (.take 7 (.br 11 (.br 12 (.br 13 (.done) (.stop)) (.stop)) (.stop))) (.stop))))))))))) (by decide +kernel) trivial (by decide +kernel) (by decide +kernel) ?_
    simp only [go_sem, Nat.reduceEqDiff, Nat.reduceAdd, Nat.reduceSub, Nat.reduceLT, Nat.reduceMul, Nat.reduceBEq, Nat.reduceLeDiff, ↓reduceIte, Int.reduceToNat, Nat.reduceGT, Int.reduceLE, Int.reduceLT, Int.reduceGE, Int.reduceGT, Int.reduceEq, Int.reduceNe, reduceCtorEq, hds2, mapAt TermG.av _ _ _ ha, TermG.av, TermG.cs_eq, ea1, ea2, ka1, ka2]
    intro q2
    have hko := PK.tst s.t e k s.ea s.ka (.v (.slice none 0 0)) q2 he hk
    rw [o] at hko
    have c := meval_calls b p fuel { s with steps := s.steps + 1 } a s.ea _ he.o hko.o _ hs1
    simp only [ptr0, TermG.av, TermG.cs_eq] at c
    refine callX_by c ?_
    clear c
    rintro r hp2 ⟨rfl, rfl⟩
    exact ret_same (stepR_of hne <| mvR_X rfl hX ⟨rfl, _, rfl, rfl, rfl, rfl, rfl, rfl, rfl, ⟨rfl, rfl, he, hko⟩⟩)
  · have hap : isApp s.t := by simp [isApp, o]
    rw [evalG_app hap]
    have c := fun (X : Hp) hX => acalls_cast (args := [ptr0 b, s.t.av, s.ea, .lst 2 (.slice none 0 0) [], s.ka]) (args' := [ptr0 b, s.t.av, s.ea, .v (.slice none 0 0), s.ka]) rfl (fun m h => ⟨h.1, h.2.1, h.2.2.1, (Cast.nil 2).2 m trivial, h.2.2.2.2⟩) (apply_calls b p fuel { s with steps := s.steps + 1 } s.t (V := V) (L := L) ⟨hpr, hva, hap⟩ he (got := []) (.slice none 0 0) .nil hk (Nat.zero_le _) (fun _ b hb => by cases hb) X hX)
    simp only [ptr0, TermG.av, TermG.cs_eq, o] at c
    simp only [go_sem, Nat.reduceEqDiff, Nat.reduceAdd, Nat.reduceSub, Nat.reduceLT, Nat.reduceMul, Nat.reduceBEq, Nat.reduceLeDiff, ↓reduceIte, Int.reduceToNat, Nat.reduceGT, Int.reduceLE, Int.reduceLT, Int.reduceGE, Int.reduceGT, Int.reduceEq, Int.reduceNe, reduceCtorEq, hds2, o, decide_false, decide_true]
    refine callX_by (c _ hs1) ?_
    intro r hp2 hR
    obtain ⟨rfl, s', rfl, hR⟩ := hR
    exact ret_same (stepR_of hne <| mvR_X rfl hX ⟨rfl, s', rfl, hR⟩)
  · simp [nodeB, o] at hn
    obtain ⟨a, ha⟩ := someAt s.t.args 0 (by omega)
    have hev : evalG p.ds p.fs s.t e k = .ev a e (.cas s.t e k) := by
      unfold evalG; simp [o, argK', ha]
    rw [hev]
    simp only [go_sem, Nat.reduceEqDiff, Nat.reduceAdd, Nat.reduceSub, Nat.reduceLT, Nat.reduceMul, Nat.reduceBEq, Nat.reduceLeDiff, ↓reduceIte, Int.reduceToNat, Nat.reduceGT, Int.reduceLE, Int.reduceLT, Int.reduceGE, Int.reduceGT, Int.reduceEq, Int.reduceNe, reduceCtorEq, hds2, o, decide_false, decide_true]
    refine draw_by (mu := [26]) (fun _ => True) (.take 0 (.take 1 (.take 2 (.take 3 (.take 4 (.take 5 (.take 8 (.take 9 (.take 10 (.br 6 (.take 7 (.br 11 (.br 12 (.br 13 (.done) (.stop)) (.stop)) (.stop))) (.stop))))))))))) (by decide +kernel) trivial (by decide +kernel) (by decide +kernel) ?_
    simp only [go_sem, Nat.reduceEqDiff, Nat.reduceAdd, Nat.reduceSub, Nat.reduceLT, Nat.reduceMul, Nat.reduceBEq, Nat.reduceLeDiff, ↓reduceIte, Int.reduceToNat, Nat.reduceGT, Int.reduceLE, Int.reduceLT, Int.reduceGE, Int.reduceGT, Int.reduceEq, Int.reduceNe, reduceCtorEq, hds2, mapAt TermG.av _ _ _ ha, TermG.av, TermG.cs_eq, ea1, ea2, ka1, ka2]
    intro q2
    have hko := PK.cas s.t e k s.ea s.ka (.v (.slice none 0 0)) q2 he hk
    rw [o] at hko
    have c := meval_calls b p fuel { s with steps := s.steps + 1 } a s.ea _ he.o hko.o _ hs1
    simp only [ptr0, TermG.av, TermG.cs_eq] at c
    refine callX_by c ?_
    clear c
    rintro r hp2 ⟨rfl, rfl⟩
    exact ret_same (stepR_of hne <| mvR_X rfl hX ⟨rfl, _, rfl, rfl, rfl, rfl, rfl, rfl, rfl, ⟨rfl, rfl, he, hko⟩⟩)
  · have hap : isApp s.t := by simp [isApp, o]
    rw [evalG_app hap]
    have c := fun (X : Hp) hX => acalls_cast (args := [ptr0 b, s.t.av, s.ea, .lst 2 (.slice none 0 0) [], s.ka]) (args' := [ptr0 b, s.t.av, s.ea, .v (.slice none 0 0), s.ka]) rfl (fun m h => ⟨h.1, h.2.1, h.2.2.1, (Cast.nil 2).2 m trivial, h.2.2.2.2⟩) (apply_calls b p fuel { s with steps := s.steps + 1 } s.t (V := V) (L := L) ⟨hpr, hva, hap⟩ he (got := []) (.slice none 0 0) .nil hk (Nat.zero_le _) (fun _ b hb => by cases hb) X hX)
    simp only [ptr0, TermG.av, TermG.cs_eq, o] at c
    simp only [go_sem, Nat.reduceEqDiff, Nat.reduceAdd, Nat.reduceSub, Nat.reduceLT, Nat.reduceMul, Nat.reduceBEq, Nat.reduceLeDiff, ↓reduceIte, Int.reduceToNat, Nat.reduceGT, Int.reduceLE, Int.reduceLT, Int.reduceGE, Int.reduceGT, Int.reduceEq, Int.reduceNe, reduceCtorEq, hds2, o, decide_false, decide_true]
    refine callX_by (c _ hs1) ?_
    intro r hp2 hR
    obtain ⟨rfl, s', rfl, hR⟩ := hR
    exact ret_same (stepR_of hne <| mvR_X rfl hX ⟨rfl, s', rfl, hR⟩)
  · have hev : evalG p.ds p.fs s.t e k = .gv (.obj s.t e) k := by unfold evalG; simp [o]
    rw [hev]
    simp only [go_sem, Nat.reduceEqDiff, Nat.reduceAdd, Nat.reduceSub, Nat.reduceLT, Nat.reduceMul, Nat.reduceBEq, Nat.reduceLeDiff, ↓reduceIte, Int.reduceToNat, Nat.reduceGT, Int.reduceLE, Int.reduceLT, Int.reduceGE, Int.reduceGT, Int.reduceEq, Int.reduceNe, reduceCtorEq, hds2, o, decide_false, decide_true, ea1, ea2]
    have hvo := PV.obj s.t e s.ea he
    rw [o] at hvo
    have c := mgive_calls b p fuel { s with steps := s.steps + 1 } _ s.ka hvo.o hk.o _ hs1
    simp only [ptr0] at c
    refine callX_by c ?_
    rintro r hp2 ⟨rfl, rfl⟩
    exact ret_same (stepR_of hne <| mvR_X rfl hX ⟨rfl, _, rfl, rfl, rfl, rfl, rfl, rfl, rfl, ⟨rfl, hvo, hk⟩⟩)
  · have hap : isApp s.t := by simp [isApp, o]
    rw [evalG_app hap]
    have c := fun (X : Hp) hX => acalls_cast (args := [ptr0 b, s.t.av, s.ea, .lst 2 (.slice none 0 0) [], s.ka]) (args' := [ptr0 b, s.t.av, s.ea, .v (.slice none 0 0), s.ka]) rfl (fun m h => ⟨h.1, h.2.1, h.2.2.1, (Cast.nil 2).2 m trivial, h.2.2.2.2⟩) (apply_calls b p fuel { s with steps := s.steps + 1 } s.t (V := V) (L := L) ⟨hpr, hva, hap⟩ he (got := []) (.slice none 0 0) .nil hk (Nat.zero_le _) (fun _ b hb => by cases hb) X hX)
    simp only [ptr0, TermG.av, TermG.cs_eq, o] at c
    simp only [go_sem, Nat.reduceEqDiff, Nat.reduceAdd, Nat.reduceSub, Nat.reduceLT, Nat.reduceMul, Nat.reduceBEq, Nat.reduceLeDiff, ↓reduceIte, Int.reduceToNat, Nat.reduceGT, Int.reduceLE, Int.reduceLT, Int.reduceGE, Int.reduceGT, Int.reduceEq, Int.reduceNe, reduceCtorEq, hds2, o, decide_false, decide_true]
    refine callX_by (c _ hs1) ?_
    intro r hp2 hR
    obtain ⟨rfl, s', rfl, hR⟩ := hR
    exact ret_same (stepR_of hne <| mvR_X rfl hX ⟨rfl, s', rfl, hR⟩)
  · have hap : isApp s.t := by simp [isApp, o]
    rw [evalG_app hap]
    have c := fun (X : Hp) hX => acalls_cast (args := [ptr0 b, s.t.av, s.ea, .lst 2 (.slice none 0 0) [], s.ka]) (args' := [ptr0 b, s.t.av, s.ea, .v (.slice none 0 0), s.ka]) rfl (fun m h => ⟨h.1, h.2.1, h.2.2.1, (Cast.nil 2).2 m trivial, h.2.2.2.2⟩) (apply_calls b p fuel { s with steps := s.steps + 1 } s.t (V := V) (L := L) ⟨hpr, hva, hap⟩ he (got := []) (.slice none 0 0) .nil hk (Nat.zero_le _) (fun _ b hb => by cases hb) X hX)
    simp only [ptr0, TermG.av, TermG.cs_eq, o] at c
    simp only [go_sem, Nat.reduceEqDiff, Nat.reduceAdd, Nat.reduceSub, Nat.reduceLT, Nat.reduceMul, Nat.reduceBEq, Nat.reduceLeDiff, ↓reduceIte, Int.reduceToNat, Nat.reduceGT, Int.reduceLE, Int.reduceLT, Int.reduceGE, Int.reduceGT, Int.reduceEq, Int.reduceNe, reduceCtorEq, hds2, o, decide_false, decide_true]
    refine callX_by (c _ hs1) ?_
    intro r hp2 hR
    obtain ⟨rfl, s', rfl, hR⟩ := hR
    exact ret_same (stepR_of hne <| mvR_X rfl hX ⟨rfl, s', rfl, hR⟩)
  · simp [nodeB, o] at hn
    obtain ⟨a, ha⟩ := someAt s.t.args 0 (by omega)
    have hev : evalG p.ds p.fs s.t e k = .ev a e (.tst s.t e k) := by
      unfold evalG; simp [o, argK', ha]
    rw [hev]
    simp only [go_sem, Nat.reduceEqDiff, Nat.reduceAdd, Nat.reduceSub, Nat.reduceLT, Nat.reduceMul, Nat.reduceBEq, Nat.reduceLeDiff, ↓reduceIte, Int.reduceToNat, Nat.reduceGT, Int.reduceLE, Int.reduceLT, Int.reduceGE, Int.reduceGT, Int.reduceEq, Int.reduceNe, reduceCtorEq, hds2, o, decide_false, decide_true]
    refine draw_by (mu := [26]) (fun _ => True) (.take 0 (.take 1 (.take 2 (.take 3 (.take 4 (.take 5 (.take 8 (.take 9 (.take 10 (.br 6 (.take 7 (.br 11 (.br 12 (.br 13 (.done) (.stop)) (.stop)) (.stop))) (.stop))))))))))) (by decide +kernel) trivial (by decide +kernel) (by decide +kernel) ?_
    simp only [go_sem, Nat.reduceEqDiff, Nat.reduceAdd, Nat.reduceSub, Nat.reduceLT, Nat.reduceMul, Nat.reduceBEq, Nat.reduceLeDiff, ↓reduceIte, Int.reduceToNat, Nat.reduceGT, Int.reduceLE, Int.reduceLT, Int.reduceGE, Int.reduceGT, Int.reduceEq, Int.reduceNe, reduceCtorEq, hds2, mapAt TermG.av _ _ _ ha, TermG.av, TermG.cs_eq, ea1, ea2, ka1, ka2]
    intro q2
    have hko := PK.tst s.t e k s.ea s.ka (.v (.slice none 0 0)) q2 he hk
    rw [o] at hko
    have c := meval_calls b p fuel { s with steps := s.steps + 1 } a s.ea _ he.o hko.o _ hs1
    simp only [ptr0, TermG.av, TermG.cs_eq] at c
    refine callX_by c ?_
    clear c
    rintro r hp2 ⟨rfl, rfl⟩
    exact ret_same (stepR_of hne <| mvR_X rfl hX ⟨rfl, _, rfl, rfl, rfl, rfl, rfl, rfl, rfl, ⟨rfl, rfl, he, hko⟩⟩)
  · simp [nodeB, o] at hn
    obtain ⟨a, ha⟩ := someAt s.t.args 0 (by omega)
    have hev : evalG p.ds p.fs s.t e k = .ev a (.lab s.t.name k e) k := by
      unfold evalG; simp [o, argK', ha]
    rw [hev]
    simp only [go_sem, Nat.reduceEqDiff, Nat.reduceAdd, Nat.reduceSub, Nat.reduceLT, Nat.reduceMul, Nat.reduceBEq, Nat.reduceLeDiff, ↓reduceIte, Int.reduceToNat, Nat.reduceGT, Int.reduceLE, Int.reduceLT, Int.reduceGE, Int.reduceGT, Int.reduceEq, Int.reduceNe, reduceCtorEq, hds2, o, decide_false, decide_true]
    refine draw_by (mu := [26]) (fun _ => True) (.take 0 (.take 1 (.take 2 (.take 3 (.take 4 (.take 5 (.take 6 (.take 7 (.take 9 (.take 12 (.br 8 (.br 10 (.br 11 (.br 13 (.done) (.stop)) (.stop)) (.stop)) (.stop)))))))))))) (by decide +kernel) trivial (by decide +kernel) (by decide +kernel) ?_
    simp only [go_sem, Nat.reduceEqDiff, Nat.reduceAdd, Nat.reduceSub, Nat.reduceLT, Nat.reduceMul, Nat.reduceBEq, Nat.reduceLeDiff, ↓reduceIte, Int.reduceToNat, Nat.reduceGT, Int.reduceLE, Int.reduceLT, Int.reduceGE, Int.reduceGT, Int.reduceEq, Int.reduceNe, reduceCtorEq, hds2, mapAt TermG.av _ _ _ ha, TermG.av, TermG.cs_eq, ea1, ea2, ka1, ka2]
    intro q2
    have heo := PE.lab s.t.name k e s.ka s.ea q2 hk he
    have c := meval_calls b p fuel { s with steps := s.steps + 1 } a _ s.ka heo.o hk.o _ hs1
    simp only [ptr0, TermG.av, TermG.cs_eq] at c
    refine callX_by c ?_
    clear c
    rintro r hp2 ⟨rfl, rfl⟩
    exact ret_same (stepR_of hne <| mvR_X rfl hX ⟨rfl, _, rfl, rfl, rfl, rfl, rfl, rfl, rfl, ⟨rfl, rfl, heo, hk⟩⟩)
  · simp [nodeB, o] at hn
    obtain ⟨a, ha⟩ := someAt s.t.args 0 (by omega)
    obtain ⟨k', hk'⟩ := hcov.2 s.t.name hn.1.2
    have hev : evalG p.ds p.fs s.t e k = .ev a e k' := by
      unfold evalG; simp [o, argK', ha, hk']
    rw [hev]
    simp only [go_sem, Nat.reduceEqDiff, Nat.reduceAdd, Nat.reduceSub, Nat.reduceLT, Nat.reduceMul, Nat.reduceBEq, Nat.reduceLeDiff, ↓reduceIte, Int.reduceToNat, Nat.reduceGT, Int.reduceLE, Int.reduceLT, Int.reduceGE, Int.reduceGT, Int.reduceEq, Int.reduceNe, reduceCtorEq, hds2, o, decide_false, decide_true]
    refine draw_by (mu := [26]) (fun _ => True) (.take 0 (.take 1 (.take 2 (.take 3 (.take 4 (.take 5 (.take 6 (.take 7 (.take 8 (.br 9 (.take 10 (.br 11 (.done) (.stop))) (.stop))))))))))) (by decide +kernel) trivial (by decide +kernel) (by decide +kernel) ?_
    simp only [go_sem, Nat.reduceEqDiff, Nat.reduceAdd, Nat.reduceSub, Nat.reduceLT, Nat.reduceMul, Nat.reduceBEq, Nat.reduceLeDiff, ↓reduceIte, Int.reduceToNat, Nat.reduceGT, Int.reduceLE, Int.reduceLT, Int.reduceGE, Int.reduceGT, Int.reduceEq, Int.reduceNe, reduceCtorEq, hds2, mapAt TermG.av _ _ _ ha, TermG.av, TermG.cs_eq, ea1, ea2, ka1, ka2]
    refine callX_by (findL_calls e s.ea he s.t.name _) ?_
    rintro r hp2 ⟨rfl, hf⟩
    obtain ⟨x0, x1, x2, ka', x4, hK, rfl⟩ := hf k' hk'
    have kb1 := ((AV.cells.eq_1 _).symm.trans hK.o.cells); have kb2 := hK.o.one
    simp only [go_sem, Nat.reduceEqDiff, Nat.reduceAdd, Nat.reduceSub, Nat.reduceLT, Nat.reduceMul, Nat.reduceBEq, Nat.reduceLeDiff, ↓reduceIte, Int.reduceToNat, Nat.reduceGT, Int.reduceLE, Int.reduceLT, Int.reduceGE, Int.reduceGT, Int.reduceEq, Int.reduceNe, reduceCtorEq, hds2, kb1, kb2]
    have c := meval_calls b p fuel { s with steps := s.steps + 1 } a s.ea ka' he.o hK.o _ hs1
    simp only [ptr0, TermG.av, TermG.cs_eq] at c
    refine callX_by c ?_
    clear c
    rintro r hp2 ⟨rfl, rfl⟩
    exact ret_same (stepR_of hne <| mvR_X rfl hX ⟨rfl, _, rfl, rfl, rfl, rfl, rfl, rfl, rfl, ⟨rfl, rfl, he, hK⟩⟩)
end Go.Proofs.YtkoachnlimebaaaGreatDoor
/- Direct evaluation: runs. -/
set_option linter.unusedSimpArgs false
set_option linter.unusedVariables false
set_option maxRecDepth 20000
set_option maxHeartbeats 4000000
namespace Go.Proofs.YtkoachnlimebaaaGreatDoor
open Go.AL

/-- The machine goes on in memory. -/
def NextR (p : ProgG) (fuel : Int) (b : Nat) (hp : Hp) (l2 : List (TypeId × Nat × Value)) (m' : MacG) (r : AV) (hp' : Hp) : Prop :=
  r = .tup [] ∧ ∃ s' : MS, hp' = (hp.setSp ((3, 1, s'.oh) :: l2)).setBlk b 75 (s'.cs p fuel) ∧ MacP m' s'
theorem sp_self {hp : Hp} {l : List (TypeId × Nat × Value)} (h : hp.sp = l) : hp.setSp l = hp := by subst h; rfl
theorem stepR_mac {p : ProgG} {fuel : Int} {f : Nat} (hf : fuel = f) {b : Nat} {hp : Hp} {l2 : List (TypeId × Nat × Value)} {s : MS} (hsp : hp.sp = (3, 1, s.oh) :: l2) {m : MacG} (hm : MacP m s) (h0 : m.fin = none) {t : TermG} {e : EnvG} {k : FrmG} (hc : m.c = .ev t e k) {r : AV} {hp' : Hp}
    (h : StepR p fuel b hp s (evalG p.ds p.fs t e k) r hp') : NextR p fuel b hp l2 (nextG p.ds p.fs f m) r hp' := by
  unfold StepR at h
  split at h
  · rename_i he
    obtain ⟨rfl, rfl⟩ := h
    have hs : m.steps = f := by have := hm.steps; omega
    rw [next_spent h0 hc hs]
    refine ⟨rfl, { s with how := 1, val := 0, over := true }, by rw [sp_self hsp], hm.outs, hm.steps, fun h => (by cases h), fun how val h => ?_⟩
    simp only [Option.some.injEq, Prod.mk.injEq] at h
    exact ⟨rfl, h.1, h.2⟩
  · rename_i he
    obtain ⟨rfl, s', rfl, e1, e2, e3, e4, e5, e6, e7⟩ := h
    have hs : ¬ m.steps = f := by have := hm.steps; omega
    rw [next_ev h0 hc hs]
    refine ⟨rfl, s', by rw [e3]; simp only; rw [sp_self hsp], by rw [e4]; exact hm.outs, by rw [e5]; simp only; rw [hm.steps]; rfl, fun _ => ⟨by rw [e6]; exact (hm.ctl h0).1, e7⟩, fun how val h => by cases h⟩
theorem outR_mac {p : ProgG} {fuel : Int} {f : Nat} {b : Nat} {hp : Hp} {l2 : List (TypeId × Nat × Value)} {s : MS} (hsp : hp.sp = (3, 1, s.oh) :: l2) {m : MacG} (hm : MacP m s) (h0 : m.fin = none) {v : ValG} {k : FrmG} (hc : m.c = .gv v k) {r : AV} {hp' : Hp}
    (h : OutR p fuel b hp l2 s (passG p.ds p.fs v k) r hp') : NextR p fuel b hp l2 (nextG p.ds p.fs f m) r hp' := by
  cases hq : passG p.ds p.fs v k with
  | go c =>
    rw [hq] at h
    obtain ⟨rfl, s', rfl, e1, e2, e3, e4, e5, e6, e7⟩ := h
    rw [next_go h0 hc hq]
    exact ⟨rfl, s', by rw [e3]; rw [sp_self hsp], by rw [e4]; exact hm.outs, by rw [e5]; exact hm.steps, fun _ => ⟨by rw [e6]; exact (hm.ctl h0).1, e7⟩, fun how val h => by cases h⟩
  | emit n c =>
    rw [hq] at h
    obtain ⟨rfl, s', rfl, e1, e2, e3, e4, e5, e6⟩ := h
    rw [next_emit h0 hc hq]
    exact ⟨rfl, s', rfl, by rw [e3, hm.outs], by rw [e4]; exact hm.steps, fun _ => ⟨by rw [e5]; exact (hm.ctl h0).1, e6⟩, fun how val h => by cases h⟩
  | fin how val =>
    rw [hq] at h
    obtain ⟨rfl, rfl⟩ := h
    rw [next_end h0 hc hq]
    refine ⟨rfl, { s with how := how, val := val, over := true }, by rw [sp_self hsp], hm.outs, hm.steps, fun h => (by cases h), fun how' val' h => ?_⟩
    simp only [Option.some.injEq, Prod.mk.injEq] at h
    exact ⟨rfl, h.1, h.2⟩

def startG (f : FunG) (inputs : List Int) : MacG := ⟨.ev f.body (bindG .nil (f.params.map ParamG.name) (inputs.map fun n => .val (.int n))) .nil, [], 0, none⟩
def runE (p : ProgG) (fuel : Int) (inputs : List Int) : Int :=
  if progB p = false then 20 else if fuel < 0 ∨ 20000 < fuel ∨ inputs.length ≠ ((p.fs.head?).map fun f => f.params.length).getD 0 then 1 else 0
theorem start_ok {p : ProgG} (hpr : progB p = true) {f : FunG} (hf : f ∈ p.fs) {inputs : List Int} (hl : inputs.length = f.params.length) : OkC p.ds p.fs (startG f inputs).c := by
  have hb0 : Cov .nil (fun _ => false) (fun _ => false) := ⟨fun _ h => by simp at h, fun _ h => by simp at h⟩
  refine ⟨⟨_, _, (Cov.bind (f.params.map ParamG.name) (inputs.map fun n => .val (.int n)) (by rw [List.length_map, List.length_map]; omega) hb0).mono (fun x hx => by simpa [addL] using hx) (fun _ h => h), (run_ok hpr).body f hf⟩, okE_bind _ _ .nil (fun b hb => ?_), .nil⟩
  obtain ⟨n, _, rfl⟩ := List.mem_map.1 hb
  exact .val _ (.int n)
theorem next_ok' {ds : List DeclG} {fs : List FunG} (ho : RunOk ds fs) (f : Nat) {m : MacG} (h0 : m.fin = none) (h1 : OkC ds fs m.c) : OkC ds fs (nextG ds fs f m).c := by
  cases hc : m.c with
  | ev t e k =>
    by_cases hs : m.steps = f
    · rw [next_spent h0 hc hs]; exact h1
    · rw [next_ev h0 hc hs]
      rw [hc] at h1
      exact eval_ok ho h1
  | gv v k =>
    have h1' := h1
    rw [hc] at h1
    have g1 := pass_ok ho h1.1 h1.2
    cases hq : passG ds fs v k with
    | go c => rw [next_go h0 hc hq]; rw [hq] at g1; exact g1
    | emit n c => rw [next_emit h0 hc hq]; rw [hq] at g1; exact g1
    | fin how val => rw [next_end h0 hc hq]; exact h1'
/-- Where a run stands: valid, and no longer than its steps. -/
structure Goes (p : ProgG) (f : Nat) (m : MacG) : Prop where
  ok : m.fin = none → OkC p.ds p.fs m.c
  len : m.outs.length ≤ m.steps
  le : m.steps ≤ f
  lenok : m.fin = none → LenOk m
theorem Goes.next {p : ProgG} (hpr : progB p = true) {f : Nat} {m : MacG} (h : Goes p f m) (h0 : m.fin = none) : Goes p f (nextG p.ds p.fs f m) := by
  have hl := next_len (ds := p.ds) (fs := p.fs) f (h.lenok h0) h0
  refine ⟨fun _ => next_ok' (run_ok hpr) f h0 (h.ok h0), ?_, (next_grow (ds := p.ds) (fs := p.fs) f m).2.2 h.le, fun _ => hl⟩
  unfold LenOk at hl; omega
theorem Goes.iter {p : ProgG} (hpr : progB p = true) {f : Nat} : ∀ (n : Nat) {m : MacG}, Goes p f m → Goes p f (iterG p.ds p.fs f n m)
  | 0, m, h => h
  | n + 1, m, h => by
    rw [iterG]
    cases h0 : m.fin with
    | none => exact Goes.iter hpr n (h.next hpr h0)
    | some x => rw [next_fin f (by rw [h0]; rfl)]; exact Goes.iter hpr n h
theorem iter_next {ds : List DeclG} {fs : List FunG} (f : Nat) (n : Nat) (m : MacG) : iterG ds fs f (n + 1) m = nextG ds fs f (iterG ds fs f n m) := by
  rw [iter_add f n 1 m]; rfl
def RunR (p : ProgG) (fuel : Int) (inputs : List Int) (hp : Hp) (r : AV) (hp' : Hp) : Prop :=
  ∃ h how val outs steps, r = .tup [.agg [.v (.int .i64 how), .v (.int .i64 val), .lst 1 h (outs.map iv), .v (.int .i64 steps)], .v (.int .i64 (runE p fuel inputs))] ∧ hp' = hp.setSp ((3, 1, h) :: hp.sp) ∧
    (runE p fuel inputs = 0 → ∃ f m, p.fs.head? = some f ∧ EndsG p.ds p.fs fuel.toNat (startG f inputs) m ∧ Goes p fuel.toNat m ∧ m.fin = some (how, val) ∧ outs = m.outs ∧ steps = m.steps) ∧
    (runE p fuel inputs ≠ 0 → how = 0 ∧ val = 0 ∧ outs = [] ∧ steps = 0)
def zeroRun : List AV := [.v (.int .i64 0), .v (.int .i64 0), .v (.slice none 0 0), .v (.int .i64 0)]
def zeroT : TermG := .mk 0 0 [] 0 (.slice none 0 0) [] (.slice none 0 0) []
def ms0 : MS := ⟨0, 0, .slice none 0 0, [], 0, zeroT, .v (.pointer none), .v (.pointer none), .v .nilIface, false, false⟩
def ms0c (p : ProgG) (fuel : Int) : List AV := [.lst 3 p.hd (p.ds.map DeclG.av), .lst 9 p.hf (p.fs.map FunG.av), .v (.int .i64 0), .v (.int .i64 0), .v (.slice none 0 0), .v (.int .i64 0), .v (.int .i64 fuel), .v (.int .i64 0), .v (.int .i64 0), .v (.string (bs [])), .v (.int .i64 0), .v (.slice none 0 0), .v (.slice none 0 0), .v (.pointer none), .v (.pointer none), .v .nilIface, .v (.bool false), .v (.bool false)]
theorem set_sp_set (H : Hp) (b : Nat) (T : TypeId) (cs cs' : List AV) (l : List (TypeId × Nat × Value)) : ((H.setBlk b T cs).setSp l).setBlk b T cs' = (H.setSp l).setBlk b T cs' := by
  rw [show (H.setBlk b T cs).setSp l = (H.setSp l).setBlk b T cs from rfl, Hp.set_set]
theorem run_err {p : ProgG} {fuel : Int} {inputs : List Int} {hp : Hp} {x : Int} (hx : runE p fuel inputs = x) (h0 : x ≠ 0) : ∃ hp' r, Gives (hp.setSp ((3, 1, .slice none 0 0) :: hp.sp)) (.tup [.agg [.v (.int .i64 0), .v (.int .i64 0), .v (.slice none 0 0), .v (.int .i64 0)], .v (.int .i64 x)]) hp' r ∧ RunR p fuel inputs hp r hp' := by
  refine ret_cast (b := .tup [.agg [.v (.int .i64 0), .v (.int .i64 0), .lst 1 (.slice none 0 0) ([].map iv), .v (.int .i64 0)], .v (.int .i64 x)]) ⟨rfl, fun m h => ⟨⟨trivial, trivial, (Cast.nil 1).2 m trivial, trivial, trivial⟩, trivial, trivial⟩⟩ (Hp.le_refl _) ?_
  exact ⟨_, 0, 0, [], 0, by rw [hx], rfl, fun h => absurd (hx ▸ h) h0, fun _ => ⟨rfl, rfl, rfl, rfl⟩⟩
theorem run_calls (p : ProgG) (hpf : PFit p) (fuel : Int) (hi : Value) (inputs : List Int) (hp : Hp) (hg : GOk hp) : ACalls Tryz.prog 12 [p.av, .v (.int .i64 fuel), intsAV hi inputs] hp (RunR p fuel inputs hp) := by
  refine acalls_addNil 3 1 ?_
  refine acalls_of Tryz.func12 rfl (by decide +kernel) (awp_sound (mu := [37]) _ _ _ ?_)
  simp only [go_sem, Nat.reduceEqDiff, Nat.reduceAdd, Nat.reduceSub, Nat.reduceLT, Nat.reduceMul, Nat.reduceBEq, Nat.reduceLeDiff, ↓reduceIte, Int.reduceToNat, Nat.reduceGT, Int.reduceLE, Int.reduceLT, Int.reduceGE, Int.reduceGT, Int.reduceEq, Int.reduceNe, reduceCtorEq, ProgG.av, ProgG.cs, declsAV, funsAV, intsAV]
  intro q b6 hb6
  have hd6 := fun T cs => Hp.del_set _ _ T cs hb6.1
  have cv := fun hp hg => validP_calls p hpf hp hg
  simp only [ProgG.av, ProgG.cs, declsAV, funsAV] at cv
  refine callX_by (cv _ hg) ?_
  rintro r hp1 ⟨rfl, rfl⟩
  cases hpr : progB p with
  | false =>
    simp only [go_sem, Nat.reduceEqDiff, Nat.reduceAdd, Nat.reduceSub, Nat.reduceLT, Nat.reduceMul, Nat.reduceBEq, Nat.reduceLeDiff, ↓reduceIte, Int.reduceToNat, Nat.reduceGT, Int.reduceLE, Int.reduceLT, Int.reduceGE, Int.reduceGT, Int.reduceEq, Int.reduceNe, reduceCtorEq, hpr, hd6]
    exact run_err (by simp [runE, hpr]) (by decide)
  | true =>
    simp only [go_sem, Nat.reduceEqDiff, Nat.reduceAdd, Nat.reduceSub, Nat.reduceLT, Nat.reduceMul, Nat.reduceBEq, Nat.reduceLeDiff, ↓reduceIte, Int.reduceToNat, Nat.reduceGT, Int.reduceLE, Int.reduceLT, Int.reduceGE, Int.reduceGT, Int.reduceEq, Int.reduceNe, reduceCtorEq, hpr, hd6]
    have hne : 0 < p.fs.length := by
      have h := hpr
      simp only [progB, Bool.and_eq_true, Bool.not_eq_true', decide_eq_false_iff_not] at h
      omega
    obtain ⟨f, hf⟩ := someAt p.fs 0 hne
    have hhd : p.fs.head? = some f := by rw [List.head?_eq_getElem?]; exact hf
    have hfp := (runp_ok hpr).hfp f (List.mem_of_getElem? hf)
    refine brK_mk (fun g0 => ?_) (fun g0 => ?_) <;> simp only [go_sem, Nat.reduceEqDiff, Nat.reduceAdd, Nat.reduceSub, Nat.reduceLT, Nat.reduceMul, Nat.reduceBEq, Nat.reduceLeDiff, ↓reduceIte, Int.reduceToNat, Nat.reduceGT, Int.reduceLE, Int.reduceLT, Int.reduceGE, Int.reduceGT, Int.reduceEq, Int.reduceNe, reduceCtorEq, g0, hd6]
    · exact run_err (by have := of_decide_eq_true g0; simp [runE, hpr, this]) (by decide)
    refine brK_mk (fun g1 => ?_) (fun g1 => ?_) <;> simp only [go_sem, Nat.reduceEqDiff, Nat.reduceAdd, Nat.reduceSub, Nat.reduceLT, Nat.reduceMul, Nat.reduceBEq, Nat.reduceLeDiff, ↓reduceIte, Int.reduceToNat, Nat.reduceGT, Int.reduceLE, Int.reduceLT, Int.reduceGE, Int.reduceGT, Int.reduceEq, Int.reduceNe, reduceCtorEq, g1, hd6, mapAt FunG.av _ _ _ hf, FunG.av, FunG.cs, paramsAV, List.length_map]
    · exact run_err (by have := of_decide_eq_true g1; simp [runE, hpr]; omega) (by decide)
    refine brK_mk (fun g2 => ?_) (fun g2 => ?_) <;> simp only [go_sem, Nat.reduceEqDiff, Nat.reduceAdd, Nat.reduceSub, Nat.reduceLT, Nat.reduceMul, Nat.reduceBEq, Nat.reduceLeDiff, ↓reduceIte, Int.reduceToNat, Nat.reduceGT, Int.reduceLE, Int.reduceLT, Int.reduceGE, Int.reduceGT, Int.reduceEq, Int.reduceNe, reduceCtorEq, g2, hd6, mapAt FunG.av _ _ _ hf, FunG.av, FunG.cs, paramsAV]
    rotate_left
    · exact run_err (by have := of_decide_eq_false g2; simp [runE, hpr, hhd]; omega) (by decide)
    have hlen : inputs.length = f.params.length := by have := of_decide_eq_true g2; omega
    have hE : runE p fuel inputs = 0 := by
      have h0 := of_decide_eq_false g0; have h1 := of_decide_eq_false g1
      simp [runE, hpr, hhd, hlen]; omega
    intro b hb
    have nb6 : b6 ≠ b := by rintro rfl; have := hb.1; simp [Hp.setBlk] at this
    refine castBlk_by b 75 (ms0c p fuel) (ms0.cs p fuel) (by simp [go_sem, Hp.setBlk, ms0c]) rfl (fun m h => ?_) ?_
    · obtain ⟨a1, a2, a3, a4, a5, a6, a7, a8, a9, a10, a11, a12, a13, a14, a15, a16, a17, a18, a19⟩ := h
      exact ⟨a1, a2, a3, a4, (Cast.nil 1).2 m trivial, a6, a7, a8, a9, a10, a11, (Cast.nil 6).2 m trivial, (Cast.nil 7).2 m trivial, a14, a15, a16, a17, a18, a19⟩
    obtain ⟨HA, hHA⟩ : ∃ HA, HA = (hp.setSp ((3, 1, .slice none 0 0) :: hp.sp)).setBlk b6 30 zeroRun := ⟨_, rfl⟩
    have hHb : HA.blk b = none := by rw [hHA, Hp.setBlk_blk, if_neg (Ne.symm nb6)]; have := hb.1; rw [Hp.setBlk_blk, if_neg (Ne.symm nb6)] at this; exact this
    have hH6 : HA.blk b6 = some (30, zeroRun) := by rw [hHA]; simp [Hp.setBlk]
    refine aw_loopX 85 (fun y : Nat × EnvG × AV => [(2, intsAV hi inputs), (3, .ref q [.lst 3 p.hd (p.ds.map DeclG.av), .lst 9 p.hf (p.fs.map FunG.av)]), (6, ptr0 b6), (7, .v (.int .i64 0)), (8, ptr0 b), (9, y.2.2), (42, .lst 2 f.hp (f.params.map ParamG.av)), (43, .v (.int .i64 f.params.length)), (44, .v (.int .i64 y.1))])
      (fun _ => HA.setBlk b 75 (ms0.cs p fuel)) (fun y => y.1 ≤ f.params.length ∧ PE y.2.1 y.2.2 ∧ bindG .nil (f.params.map ParamG.name) (inputs.map fun n => .val (.int n)) = bindG y.2.1 ((f.params.map ParamG.name).drop y.1) ((inputs.map fun n => BndG.val (.int n)).drop y.1)) (fun y => f.params.length - y.1) (0, .nil, .v (.pointer none)) ⟨Nat.zero_le _, .nil, rfl⟩
      (le_mkSl rfl (by rw [hHA]; simp only [go_sem, Nat.reduceEqDiff, Nat.reduceAdd, Nat.reduceSub, Nat.reduceLT, Nat.reduceMul, Nat.reduceBEq, Nat.reduceLeDiff, ↓reduceIte, Int.reduceToNat, Nat.reduceGT, Int.reduceLE, Int.reduceLT, Int.reduceGE, Int.reduceGT, Int.reduceEq, Int.reduceNe, reduceCtorEq, Hp.set_set]; exact Hp.le_refl _) (by simp [go_sem, ptr0, intsAV])) ?_
    rintro ⟨k', e', ea'⟩ ⟨hk', he', hbi⟩
    simp only at hk' he' hbi
    refine awp_sound (mu := [37]) _ _ _ ?_
    simp only [go_sem, Nat.reduceEqDiff, Nat.reduceAdd, Nat.reduceSub, Nat.reduceLT, Nat.reduceMul, Nat.reduceBEq, Nat.reduceLeDiff, ↓reduceIte, Int.reduceToNat, Nat.reduceGT, Int.reduceLE, Int.reduceLT, Int.reduceGE, Int.reduceGT, Int.reduceEq, Int.reduceNe, reduceCtorEq, ptr0, intsAV]
    refine brK_mk (fun h1 => ?_) (fun h1 => ?_) <;> simp only [go_sem, Nat.reduceEqDiff, Nat.reduceAdd, Nat.reduceSub, Nat.reduceLT, Nat.reduceMul, Nat.reduceBEq, Nat.reduceLeDiff, ↓reduceIte, Int.reduceToNat, Nat.reduceGT, Int.reduceLE, Int.reduceLT, Int.reduceGE, Int.reduceGT, Int.reduceEq, Int.reduceNe, reduceCtorEq, h1]
    · have hlt : k' < f.params.length := by simpa using h1
      obtain ⟨a, ha⟩ := someAt f.params k' hlt
      obtain ⟨n0, hn0⟩ := someAt inputs k' (by omega)
      have hwu : IntKind.i64.wrap ((k' : Int) + 1) = ((k' + 1 : Nat) : Int) := IntWalk.i64_in _ (by omega)
      simp only [go_sem, Nat.reduceEqDiff, Nat.reduceAdd, Nat.reduceSub, Nat.reduceLT, Nat.reduceMul, Nat.reduceBEq, Nat.reduceLeDiff, ↓reduceIte, Int.reduceToNat, Nat.reduceGT, Int.reduceLE, Int.reduceLT, Int.reduceGE, Int.reduceGT, Int.reduceEq, Int.reduceNe, reduceCtorEq, mapAt ParamG.av _ _ _ ha, ParamG.av, ParamG.cs]
      intro v hv
      have hds := fun T cs => Hp.del_set _ _ T cs hv.1
      simp only [go_sem, Nat.reduceEqDiff, Nat.reduceAdd, Nat.reduceSub, Nat.reduceLT, Nat.reduceMul, Nat.reduceBEq, Nat.reduceLeDiff, ↓reduceIte, Int.reduceToNat, Nat.reduceGT, Int.reduceLE, Int.reduceLT, Int.reduceGE, Int.reduceGT, Int.reduceEq, Int.reduceNe, reduceCtorEq, hds]
      refine draw_by (mu := [37]) (fun _ => True) (.take 0 (.take 1 (.take 2 (.take 3 (.take 4 (.take 5 (.take 6 (.take 7 (.br 8 (.br 9 (.take 10 (.done)) (.stop)) (.stop)))))))))) (by decide +kernel) trivial (by decide +kernel) (by decide +kernel) ?_
      simp only [go_sem, Nat.reduceEqDiff, Nat.reduceAdd, Nat.reduceSub, Nat.reduceLT, Nat.reduceMul, Nat.reduceBEq, Nat.reduceLeDiff, ↓reduceIte, Int.reduceToNat, Nat.reduceGT, Int.reduceLE, Int.reduceLT, Int.reduceGE, Int.reduceGT, Int.reduceEq, Int.reduceNe, reduceCtorEq, hds, mapAt iv _ _ _ hn0, iv]
      refine callX_by (ebind_calls ea' a.name (.ifc 3 (.v (.int .i64 n0))) (.v (.pointer none)) he'.o ⟨rfl, rfl⟩ ⟨rfl, rfl⟩ _) ?_
      rintro r hp1 ⟨⟨q3, rfl⟩, rfl⟩
      simp only [go_sem, Nat.reduceEqDiff, Nat.reduceAdd, Nat.reduceSub, Nat.reduceLT, Nat.reduceMul, Nat.reduceBEq, Nat.reduceLeDiff, ↓reduceIte, Int.reduceToNat, Nat.reduceGT, Int.reduceLE, Int.reduceLT, Int.reduceGE, Int.reduceGT, Int.reduceEq, Int.reduceNe, reduceCtorEq, hds, hwu]
      exact ⟨(k' + 1, .var a.name (.val (.int n0)) e', _), by simp only; omega, ⟨by simp only; omega, .var _ _ _ _ _ _ q3 (.val _ _ (.int n0)) he', by rw [hbi]; exact bindG_step (mapAt ParamG.name _ _ _ ha) (mapAt (fun n => BndG.val (.int n)) _ _ _ hn0)⟩, le_mkSl rfl (Hp.le_refl _) (by simp [go_sem, ptr0, intsAV, hwu])⟩
    · have hge : k' = f.params.length := by simp at h1; omega
      subst hge
      rw [List.drop_of_length_le (by simp), bindG_nil] at hbi
      simp only [go_sem, Nat.reduceEqDiff, Nat.reduceAdd, Nat.reduceSub, Nat.reduceLT, Nat.reduceMul, Nat.reduceBEq, Nat.reduceLeDiff, ↓reduceIte, Int.reduceToNat, Nat.reduceGT, Int.reduceLE, Int.reduceLT, Int.reduceGE, Int.reduceGT, Int.reduceEq, Int.reduceNe, reduceCtorEq, mapAt FunG.av _ _ _ hf, FunG.av, FunG.cs]
      have c := meval_calls b p fuel ms0 f.body ea' (.v (.pointer none)) he'.o ⟨rfl, rfl⟩ (HA.setBlk b 75 (ms0.cs p fuel)) (ms_fz ..)
      simp only [ptr0, TermG.av, TermG.cs_eq] at c
      refine callX_by c ?_
      clear c
      rintro r hp1 ⟨rfl, rfl⟩
      rw [Hp.set_set]
      obtain ⟨m0, hm0⟩ : ∃ m0, m0 = startG f inputs := ⟨_, rfl⟩
      have hfu : fuel = (fuel.toNat : Int) := by have := of_decide_eq_false g0; omega
      have hfn : fuel.toNat ≤ 20000 := by have := of_decide_eq_false g1; omega
      have hgo0 : Goes p fuel.toNat m0 := by
        rw [hm0]
        exact ⟨fun _ => start_ok hpr (List.mem_of_getElem? hf) hlen, by simp [startG], Nat.zero_le _, fun _ => by simp [LenOk, startG, isEv]⟩
      have hmac0 : MacP m0 ({ ms0 with t := f.body, ea := ea', ka := .v (.pointer none), given := false } : MS) := by
        rw [hm0]
        refine ⟨rfl, rfl, fun _ => ⟨rfl, rfl, rfl, ?_, .nil⟩, fun how val h => by cases h⟩
        rw [hbi]; exact he'
      obtain ⟨r, hr, N, hN⟩ := ends_exist (ds := p.ds) (fs := p.fs) fuel.toNat _ _ m0 rfl rfl hgo0.le
      have hHsp : HA.sp = (3, 1, .slice none 0 0) :: hp.sp := by rw [hHA]; rfl
      refine aw_loopX 85 (fun y : Nat × MS => [(6, ptr0 b6), (7, .v (.int .i64 0)), (8, ptr0 b)]) (fun y => (HA.setSp ((3, 1, y.2.oh) :: hp.sp)).setBlk b 75 (y.2.cs p fuel))
        (fun y => y.1 ≤ N ∧ MacP (iterG p.ds p.fs fuel.toNat y.1 m0) y.2) (fun y => N - y.1) (0, { ms0 with t := f.body, ea := ea', ka := .v (.pointer none), given := false }) ⟨Nat.zero_le _, hmac0⟩
        (le_mkSl rfl (by simp only [ms0]; rw [sp_self hHsp]; exact Hp.le_refl _) (by simp [go_sem, ptr0])) ?_
      rintro ⟨i, s⟩ ⟨hi1, hmac⟩
      simp only at hi1 hmac
      have hgo := hgo0.iter hpr i
      obtain ⟨X, hX⟩ : ∃ X, X = (HA.setSp ((3, 1, s.oh) :: hp.sp)).setBlk b 75 (s.cs p fuel) := ⟨_, rfl⟩
      rw [← hX]
      have hXb : X.blk b = some (75, s.cs p fuel) := by rw [hX]; exact ms_fz ..
      have hXs : X.sp = (3, 1, s.oh) :: hp.sp := by rw [hX]; rfl
      have hbm := hXb
      simp only [MS.cs] at hbm
      refine awp_sound (mu := [37]) _ _ _ ?_
      obtain ⟨m, hm⟩ : ∃ m, m = iterG p.ds p.fs fuel.toNat i m0 := ⟨_, rfl⟩
      rw [← hm] at hmac hgo
      have hnx : nextG p.ds p.fs fuel.toNat m = iterG p.ds p.fs fuel.toNat (i + 1) m0 := by rw [hm, iter_next]
      have hlo : s.outs.length ≤ 30000 := by rw [hmac.outs]; have := hgo.len; have := hgo.le; omega
      cases hfin : m.fin with
      | none =>
        obtain ⟨hov, hctl⟩ := hmac.ctl hfin
        have hiN : i + 1 ≤ N := by
          rcases Nat.lt_or_ge i N with h | h
          · exact h
          · exfalso
            have : iterG p.ds p.fs fuel.toNat i m0 = r := by
              have e : i = N + (i - N) := by omega
              rw [e, iter_add, hN, iter_fin fuel.toNat _ hr]
            rw [← hm] at this; rw [this] at hfin; rw [hfin] at hr; cases hr
        have back : ∀ {r : AV} {hp' : Hp}, NextR p fuel b X hp.sp (nextG p.ds p.fs fuel.toNat m) r hp' → r = .tup [] ∧ ∃ s', hp' = (HA.setSp ((3, 1, s'.oh) :: hp.sp)).setBlk b 75 (s'.cs p fuel) ∧ MacP (iterG p.ds p.fs fuel.toNat (i + 1) m0) s' := by
          rintro r hp' ⟨rfl, s', rfl, hs'⟩
          rw [hnx] at hs'
          exact ⟨rfl, s', by rw [hX, set_sp_set]; rfl, hs'⟩
        cases hc : m.c with
        | ev t e k =>
          rw [hc] at hctl
          simp only [go_sem, Nat.reduceEqDiff, Nat.reduceAdd, Nat.reduceSub, Nat.reduceLT, Nat.reduceMul, Nat.reduceBEq, Nat.reduceLeDiff, ↓reduceIte, Int.reduceToNat, Nat.reduceGT, Int.reduceLE, Int.reduceLT, Int.reduceGE, Int.reduceGT, Int.reduceEq, Int.reduceNe, reduceCtorEq, ptr0, hbm, hov, hctl.1]
          have c := step_calls b p hpr fuel s hctl (by have := hgo.ok hfin; rwa [hc] at this) (by rw [hmac.steps]; omega) (by rw [hmac.steps]; have := hgo.le; omega) X hXb
          simp only [ptr0] at c
          refine callX_by c ?_
          intro r hp1 hR
          obtain ⟨rfl, s', rfl, hs'⟩ := back (stepR_mac hfu hXs hmac hfin hc hR)
          exact ⟨(i + 1, s'), by simp only; omega, ⟨hiN, hs'⟩, le_mkSl rfl (Hp.le_refl _) (by simp [go_sem, ptr0])⟩
        | gv v k =>
          rw [hc] at hctl
          simp only [go_sem, Nat.reduceEqDiff, Nat.reduceAdd, Nat.reduceSub, Nat.reduceLT, Nat.reduceMul, Nat.reduceBEq, Nat.reduceLeDiff, ↓reduceIte, Int.reduceToNat, Nat.reduceGT, Int.reduceLE, Int.reduceLT, Int.reduceGE, Int.reduceGT, Int.reduceEq, Int.reduceNe, reduceCtorEq, ptr0, hbm, hov, hctl.1]
          have c := pass_calls b p hpr fuel s hp.sp hctl (by have := hgo.ok hfin; rwa [hc] at this) hlo X hXb hXs
          simp only [ptr0] at c
          refine callX_by c ?_
          intro r hp1 hR
          obtain ⟨rfl, s', rfl, hs'⟩ := back (outR_mac hXs hmac hfin hc hR)
          exact ⟨(i + 1, s'), by simp only; omega, ⟨hiN, hs'⟩, le_mkSl rfl (Hp.le_refl _) (by simp [go_sem, ptr0])⟩
      | some x =>
        obtain ⟨how, val⟩ := x
        obtain ⟨hov, hh, hv⟩ := hmac.fin how val hfin
        have hX6 : X.blk b6 = some (30, zeroRun) := by rw [hX, Hp.setBlk_blk, if_neg nb6]; exact hH6
        simp only [zeroRun] at hX6
        simp only [go_sem, Nat.reduceEqDiff, Nat.reduceAdd, Nat.reduceSub, Nat.reduceLT, Nat.reduceMul, Nat.reduceBEq, Nat.reduceLeDiff, ↓reduceIte, Int.reduceToNat, Nat.reduceGT, Int.reduceLE, Int.reduceLT, Int.reduceGE, Int.reduceGT, Int.reduceEq, Int.reduceNe, reduceCtorEq, ptr0, hbm, hov, hX6]
        have hb60 : hp.blk b6 = none := hb6.1
        have hb0 : hp.blk b = none := by have := hb.1; rwa [Hp.setBlk_blk, if_neg (Ne.symm nb6)] at this
        refine ret_le (hp' := hp.setSp ((3, 1, s.oh) :: hp.sp)) ⟨fun j x hj => ?_, fun j x hj => ?_, ?_, fun x hx => ?_⟩ ?_
        · have h1 : j ≠ b6 := by rintro rfl; rw [Hp.setSp_blk, hb60] at hj; cases hj
          have h2 : j ≠ b := by rintro rfl; rw [Hp.setSp_blk, hb0] at hj; cases hj
          rw [hX, hHA, Hp.delBlk_blk, if_neg h1, Hp.setBlk_blk, if_neg h2, Hp.setSp_blk, Hp.setBlk_blk, if_neg h1]
          exact hj
        · rw [hX, hHA]; exact hj
        · rw [hX, hHA]; exact List.Sublist.refl _
        · rw [hX, hHA]; exact hx
        · refine ⟨s.oh, s.how, s.val, s.outs, s.steps, by rw [hE], rfl, fun _ => ⟨f, m, hhd, ?_, hgo, by rw [hh, hv]; exact hfin, hmac.outs, hmac.steps⟩, fun h => absurd hE h⟩
          rw [← hm0]
          exact ⟨by rw [hfin]; rfl, i, hm.symm⟩
end Go.Proofs.YtkoachnlimebaaaGreatDoor
