/- The reference of direct evaluation: an application whose arguments are bound. -/
import Derived.Test.YtkoachnlimebaaaGreatDoorCX5
import Derived.Test.YtkoachnlimebaaaGreatDoorCW11
import Derived.Test.YtkoachnlimebaaaGreatDoorCAL34
set_option linter.unusedSimpArgs false
set_option linter.unusedVariables false
set_option maxRecDepth 20000
set_option maxHeartbeats 4000000
namespace Go.Proofs.YtkoachnlimebaaaGreatDoor
open Go.AL

/-- The reference's machine goes on: what is next is another, the rest is as it was. -/
def RMvR (p : ProgG) (fuel : Int) (b : Nat) (hp : Hp) (s : RS) (c : Ctl) (r : AV) (hp' : Hp) : Prop :=
  r = .tup [] ∧ ∃ s' : RS, hp' = hp.setBlk b 100 (s'.cs p fuel) ∧ s'.how = s.how ∧ s'.val = s.val ∧ s'.oh = s.oh ∧ s'.outs = s.outs ∧ s'.steps = s.steps ∧ s'.over = s.over ∧ RCtl c s'
theorem le_sp1 (hp : Hp) (x : TypeId × Nat × Value) (b : Nat) (T : TypeId) (cs : List AV) : (hp.setBlk b T cs).le ((hp.setSp (x :: hp.sp)).setBlk b T cs) := ⟨fun _ _ h => h, fun _ _ h => h, List.sublist_cons_self _ _, fun _ h => h⟩
theorem le_sp2 (hp : Hp) (x y : TypeId × Nat × Value) (b : Nat) (T : TypeId) (cs : List AV) : (hp.setBlk b T cs).le ((hp.setSp (y :: x :: hp.sp)).setBlk b T cs) := ⟨fun _ _ h => h, fun _ _ h => h, (List.sublist_cons_self _ _).trans (List.sublist_cons_self _ _), fun _ h => h⟩

theorem rallBound_calls (b : Nat) (p : ProgG) (fuel : Int) (s : RS) (t : TermG) {V L : Bytes → Bool} (ok : AppOk p V L t) (h2 : t.op ≠ 2) {e : EnvG} {ea : AV} (he : QE e ea) {got : List BndG} (h : Value) {gs : List AV} (hg : QBs got gs) {k : FrmG} {ka : AV} (hk : QK k ka)
    (hl : got.length = (typesG p.ds p.fs t).length) (hp : Hp) (hb : hp.blk b = some (100, s.cs p fuel)) :
    ACalls Tryz.prog 149 [ptr0 b, t.av, ea, .lst 14 h gs, ka] hp (RMvR p fuel b hp s (performG p.fs t e got k)) := by
  have hpr := runp_ok ok.pr
  have hn := ok.nd
  have hb0 := hb
  simp only [RS.cs] at hb
  obtain ⟨n1, n2, n3, n4⟩ := node_arity hn ok.ap
  have hal := hg.len
  have hl6 : (typesG p.ds p.fs t).length ≤ 6 := types_len ok
  have oe := he.o
  have ok2 := hk.o
  refine acalls_addNil 9 1 ?_
  refine acalls_of Tryz.func149 rfl (by decide +kernel) (awp_sound (mu := []) _ _ _ ?_)
  simp only [go_sem, Nat.reduceEqDiff, Nat.reduceAdd, Nat.reduceSub, Nat.reduceLT, Nat.reduceMul, Nat.reduceBEq, Nat.reduceLeDiff, ↓reduceIte, Int.reduceToNat, Nat.reduceGT, Int.reduceLE, Int.reduceLT, Int.reduceGE, Int.reduceGT, Int.reduceEq, Int.reduceNe, reduceCtorEq, TermG.av, TermG.cs_eq, ptr0]
  intro q
  rcases ok.ap with o | o | o | o | o
  · exact absurd o h2
  · -- a constructor
    simp only [go_sem, Nat.reduceEqDiff, Nat.reduceAdd, Nat.reduceSub, Nat.reduceLT, Nat.reduceMul, Nat.reduceBEq, Nat.reduceLeDiff, ↓reduceIte, Int.reduceToNat, Nat.reduceGT, Int.reduceLE, Int.reduceLT, Int.reduceGE, Int.reduceGT, Int.reduceEq, Int.reduceNe, reduceCtorEq, o, decide_false, decide_true]
    have c := fun hp hb => rpass_calls b p fuel s (.v (.int .i64 1)) (.v (.int .i64 t.n)) (.v (.int .i64 t.ty)) (.lst 14 h gs) (.v (.slice none 0 0)) (.v (.pointer none)) ka ⟨rfl, rfl⟩ ⟨rfl, rfl⟩ ⟨rfl, rfl⟩ ⟨rfl, rfl⟩ ⟨rfl, rfl⟩ ⟨rfl, rfl⟩ ok2 hp hb
    simp only [ptr0] at c
    refine callX_by (c _ hb0) ?_
    clear c
    rintro r hp2 ⟨rfl, rfl⟩
    simp only [go_sem, Nat.reduceEqDiff, Nat.reduceAdd, Nat.reduceSub, Nat.reduceLT, Nat.reduceMul, Nat.reduceBEq, Nat.reduceLeDiff, ↓reduceIte, Int.reduceToNat, Nat.reduceGT, Int.reduceLE, Int.reduceLT, Int.reduceGE, Int.reduceGT, Int.reduceEq, Int.reduceNe, reduceCtorEq]
    refine ret_le (le_sp1 ..) ⟨rfl, _, rfl, rfl, rfl, rfl, rfl, rfl, rfl, ?_⟩
    unfold performG; rw [if_neg (by omega), if_pos o]
    exact ⟨rfl, .con _ _ _ _ _ hg, hk⟩
  · -- a destructor
    have h6 := n2 o
    obtain ⟨a, ha⟩ := someAt t.args (typesG p.ds p.fs t).length (by omega)
    have hwl : IntKind.i64.wrap ((t.args.length : Int) - 1) = ((typesG p.ds p.fs t).length : Int) := by rw [IntWalk.i64_in _ (by omega)]; omega
    simp only [go_sem, Nat.reduceEqDiff, Nat.reduceAdd, Nat.reduceSub, Nat.reduceLT, Nat.reduceMul, Nat.reduceBEq, Nat.reduceLeDiff, ↓reduceIte, Int.reduceToNat, Nat.reduceGT, Int.reduceLE, Int.reduceLT, Int.reduceGE, Int.reduceGT, Int.reduceEq, Int.reduceNe, reduceCtorEq, o, decide_false, decide_true]
    refine draw_by (mu := []) (fun _ => True) (.take 0 (.take 1 (.take 2 (.take 3 (.take 4 (.take 5 (.take 6 (.take 7 (.take 8 (.take 9 (.take 10 (.take 11 (.take 12 (.br 13 (.br 14 (.br 15 (.done) (.stop)) (.stop)) (.stop))))))))))))))) (by decide +kernel) trivial (by decide +kernel) (by decide +kernel) ?_
    simp only [go_sem, Nat.reduceEqDiff, Nat.reduceAdd, Nat.reduceSub, Nat.reduceLT, Nat.reduceMul, Nat.reduceBEq, Nat.reduceLeDiff, ↓reduceIte, Int.reduceToNat, Nat.reduceGT, Int.reduceLE, Int.reduceLT, Int.reduceGE, Int.reduceGT, Int.reduceEq, Int.reduceNe, reduceCtorEq, List.length_map, hwl, mapAt TermG.av _ _ _ ha, TermG.av, TermG.cs_eq, ((AV.cells.eq_1 _).symm.trans oe.cells), oe.one, ((AV.cells.eq_1 _).symm.trans ok2.cells), ok2.one]
    intro q2
    have c := fun hp hb => reval_calls b p fuel s a ea (.ref q2 [.v (.int .i64 6), .v (.int .i64 6), .v (.int .i64 t.n), .v (.string (bs t.name)), .v (.int .i64 t.ty), .lst 6 t.ha (t.args.map TermG.av), .lst 7 t.hc (t.cls.map ClauseG.av), .v (.pointer none), .lst 14 h gs, .v (.int .i64 0), ka]) oe ⟨rfl, rfl⟩ hp hb
    simp only [ptr0, TermG.av, TermG.cs_eq] at c
    refine callX_by (c _ hb0) ?_
    clear c
    rintro r hp2 ⟨rfl, rfl⟩
    refine ret_le (le_sp1 ..) ⟨rfl, _, rfl, rfl, rfl, rfl, rfl, rfl, rfl, ?_⟩
    unfold performG; rw [if_neg (by omega), if_neg (by omega), if_pos o, List.getLast?_eq_getElem?, h6, Nat.add_sub_cancel, ha]
    have hko := QK.obs t e got k ka h q2 gs hg hk
    rw [o] at hko
    exact ⟨rfl, rfl, he, hko⟩
  · -- a let
    have h8 := n3 o
    simp [typesG, o] at hl
    match got, hl with
    | [g0], _ =>
    obtain ⟨a, ha⟩ := someAt t.args 1 (by omega)
    simp only [go_sem, Nat.reduceEqDiff, Nat.reduceAdd, Nat.reduceSub, Nat.reduceLT, Nat.reduceMul, Nat.reduceBEq, Nat.reduceLeDiff, ↓reduceIte, Int.reduceToNat, Nat.reduceGT, Int.reduceLE, Int.reduceLT, Int.reduceGE, Int.reduceGT, Int.reduceEq, Int.reduceNe, reduceCtorEq, o, decide_false, decide_true]
    refine draw_by (mu := []) (fun _ => True) (.take 0 (.take 1 (.take 2 (.take 3 (.take 4 (.take 5 (.take 6 (.take 7 (.take 9 (.take 11 (.br 8 (.br 10 (.br 12 (.done) (.stop)) (.stop)) (.stop)))))))))))) (by decide +kernel) trivial (by decide +kernel) (by decide +kernel) ?_
    simp only [go_sem, Nat.reduceEqDiff, Nat.reduceAdd, Nat.reduceSub, Nat.reduceLT, Nat.reduceMul, Nat.reduceBEq, Nat.reduceLeDiff, ↓reduceIte, Int.reduceToNat, Nat.reduceGT, Int.reduceLE, Int.reduceLT, Int.reduceGE, Int.reduceGT, Int.reduceEq, Int.reduceNe, reduceCtorEq, List.length_map, mapAt TermG.av _ _ _ ha, TermG.av, TermG.cs_eq, ((AV.cells.eq_1 _).symm.trans oe.cells), oe.one, ((AV.cells.eq_1 _).symm.trans ok2.cells), ok2.one]
    refine ⟨rfl, by simp, fun hd => ?_⟩
    have c1 := fun hp => rextend_calls e ea he hd [t.name] h [g0] gs hg (by simp) (by simp) hp
    simp only [strsAV, List.map_cons, List.map_nil] at c1
    refine callX_by (c1 _) ?_
    rintro r hp1 ⟨hr, rfl⟩
    have or1 := hr.o
    simp only [go_sem, Nat.reduceEqDiff, Nat.reduceAdd, Nat.reduceSub, Nat.reduceLT, Nat.reduceMul, Nat.reduceBEq, Nat.reduceLeDiff, ↓reduceIte, Int.reduceToNat, Nat.reduceGT, Int.reduceLE, Int.reduceLT, Int.reduceGE, Int.reduceGT, Int.reduceEq, Int.reduceNe, reduceCtorEq, ((AV.cells.eq_1 _).symm.trans or1.cells), or1.one]
    have c := fun hp hb => reval_calls b p fuel s a r ka or1 ok2 hp hb
    simp only [ptr0, TermG.av, TermG.cs_eq] at c
    refine callX_by (c _ hb0) ?_
    clear c
    rintro r' hp2 ⟨rfl, rfl⟩
    refine ret_le (le_sp2 ..) ⟨rfl, _, rfl, rfl, rfl, rfl, rfl, rfl, rfl, ?_⟩
    unfold performG; rw [if_neg (by omega), if_neg (by omega), if_neg (by omega), if_pos o]
    simp only [argK', ha]
    exact ⟨rfl, rfl, hr, hk⟩
  · -- a call
    obtain ⟨f, hf, hfl⟩ := n4 o
    have hn0 : 0 ≤ t.n := by simp [nodeB, o] at hn; omega
    have hfp := hpr.hfp f (List.mem_of_getElem? hf)
    have hperf : performG p.fs t e got k = .ev f.body (bindG .nil (f.params.map ParamG.name) got) k := by
      unfold performG; rw [if_neg (by omega), if_neg (by omega), if_neg (by omega), if_neg (by omega), hf]
    rw [hperf]
    simp only [go_sem, Nat.reduceEqDiff, Nat.reduceAdd, Nat.reduceSub, Nat.reduceLT, Nat.reduceMul, Nat.reduceBEq, Nat.reduceLeDiff, ↓reduceIte, Int.reduceToNat, Nat.reduceGT, Int.reduceLE, Int.reduceLT, Int.reduceGE, Int.reduceGT, Int.reduceEq, Int.reduceNe, reduceCtorEq, o, decide_false, decide_true]
    refine draw_by (mu := []) (fun h => h.blk b = some (100, s.cs p fuel)) (.take 0 (.take 1 (.take 2 (.take 3 (.take 4 (.take 5 (.take 6 (.take 7 (.take 8 (.br 9 (.br 10 (.done) (.stop)) (.stop))))))))))) (by decide +kernel) hb0 (by decide +kernel) (by decide +kernel) ?_
    simp only [go_sem, Nat.reduceEqDiff, Nat.reduceAdd, Nat.reduceSub, Nat.reduceLT, Nat.reduceMul, Nat.reduceBEq, Nat.reduceLeDiff, ↓reduceIte, Int.reduceToNat, Nat.reduceGT, Int.reduceLE, Int.reduceLT, Int.reduceGE, Int.reduceGT, Int.reduceEq, Int.reduceNe, reduceCtorEq, hb, mapAt FunG.av _ _ _ hf, FunG.av, FunG.cs, paramsAV]
    refine ⟨fun h e => by rw [e]; simp only [go_sem, Nat.reduceEqDiff, Nat.reduceAdd, Nat.reduceSub, Nat.reduceLT, Nat.reduceMul, Nat.reduceBEq, Nat.reduceLeDiff, ↓reduceIte, Int.reduceToNat, Nat.reduceGT, Int.reduceLE, Int.reduceLT, Int.reduceGE, Int.reduceGT, Int.reduceEq, Int.reduceNe, reduceCtorEq, RS.cs], hn0, fun _ _ => hn0, ?_⟩
    intro v10 hv10
    have nb : b ≠ v10 := by rintro rfl; have := hv10.1; simp [Hp.setSp, hb0] at this
    have hd10 := fun T cs => Hp.del_set _ _ T cs hv10.1
    simp only [hd10, if_neg nb, hb, go_sem, Nat.reduceEqDiff, Nat.reduceAdd, Nat.reduceSub, Nat.reduceLT, Nat.reduceMul, Nat.reduceBEq, Nat.reduceLeDiff, ↓reduceIte, Int.reduceToNat, Nat.reduceGT, Int.reduceLE, Int.reduceLT, Int.reduceGE, Int.reduceGT, Int.reduceEq, Int.reduceNe, reduceCtorEq]
    refine ⟨by simp only [RS.cs], by simp only [RS.cs], ?_⟩
    refine aw_loopX 92 (fun y : Nat × Value => [(0, ptr0 b), (3, .lst 14 h gs), (4, ka), (10, .ref (.pointer (some ⟨v10, 0, none⟩)) f.cs), (11, strsAV y.2 ((f.params.take y.1).map ParamG.name)), (72, .lst 2 f.hp (f.params.map ParamG.av)), (73, .v (.int .i64 f.params.length)), (74, .v (.int .i64 y.1))])
      (fun y => hp.setSp ((9, 1, y.2) :: hp.sp)) (fun y => y.1 ≤ f.params.length) (fun y => f.params.length - y.1) (0, .slice none 0 0) (Nat.zero_le _) (le_of_cast rfl (Hp.le_refl _) (by simp [go_sem, Cast.refl, strsAV, FunG.cs, paramsAV, ptr0]; exact Cast.nil 1)) ?_
    rintro ⟨k', h3⟩ hk'
    simp only at hk'
    refine awp_sound (mu := []) _ _ _ ?_
    simp only [go_sem, Nat.reduceEqDiff, Nat.reduceAdd, Nat.reduceSub, Nat.reduceLT, Nat.reduceMul, Nat.reduceBEq, Nat.reduceLeDiff, ↓reduceIte, Int.reduceToNat, Nat.reduceGT, Int.reduceLE, Int.reduceLT, Int.reduceGE, Int.reduceGT, Int.reduceEq, Int.reduceNe, reduceCtorEq, strsAV, ptr0]
    refine brK_mk (fun b1 => ?_) (fun b1 => ?_) <;> simp only [go_sem, Nat.reduceEqDiff, Nat.reduceAdd, Nat.reduceSub, Nat.reduceLT, Nat.reduceMul, Nat.reduceBEq, Nat.reduceLeDiff, ↓reduceIte, Int.reduceToNat, Nat.reduceGT, Int.reduceLE, Int.reduceLT, Int.reduceGE, Int.reduceGT, Int.reduceEq, Int.reduceNe, reduceCtorEq, b1]
    · have hlt : k' < f.params.length := by simpa using b1
      obtain ⟨x, hx⟩ := someAt f.params k' hlt
      have hwu : IntKind.i64.wrap ((k' : Int) + 1) = ((k' + 1 : Nat) : Int) := IntWalk.i64_in _ (by omega)
      have htk : (f.params.take (k' + 1)).map ParamG.name = (f.params.take k').map ParamG.name ++ [x.name] := by rw [List.take_add_one, hx]; simp
      simp only [go_sem, Nat.reduceEqDiff, Nat.reduceAdd, Nat.reduceSub, Nat.reduceLT, Nat.reduceMul, Nat.reduceBEq, Nat.reduceLeDiff, ↓reduceIte, Int.reduceToNat, Nat.reduceGT, Int.reduceLE, Int.reduceLT, Int.reduceGE, Int.reduceGT, Int.reduceEq, Int.reduceNe, reduceCtorEq, mapAt ParamG.av _ _ _ hx, ParamG.av, ParamG.cs]
      intro v hv
      have hds := fun T cs => Hp.del_set _ _ T cs hv.1
      simp only [go_sem, Nat.reduceEqDiff, Nat.reduceAdd, Nat.reduceSub, Nat.reduceLT, Nat.reduceMul, Nat.reduceBEq, Nat.reduceLeDiff, ↓reduceIte, Int.reduceToNat, Nat.reduceGT, Int.reduceLE, Int.reduceLT, Int.reduceGE, Int.reduceGT, Int.reduceEq, Int.reduceNe, reduceCtorEq, hds]
      refine ⟨rfl, by simp, fun hd => ?_⟩
      refine append_by (a := strsAV h3 ((f.params.take k').map ParamG.name)) (b := .lst 1 hd [.v (.string (bs x.name))]) (l1 := [(9, 1, hd)]) (l2 := hp.sp) (h := h3) (h2 := hd) Tryz.k101 Tryz.s9 Tryz.y9 Tryz.z9 rfl (by decide)
        (by simp [go_sem, strsAV]) (Cast.refl _) (by simp [go_sem]) (Cast.refl _) (by simp [go_sem]) (by simp [go_sem]) (by simp [maxLen]; omega) (by simp; omega) (by simp [go_sem]) (fun h4 => ?_)
      simp only [go_sem, Nat.reduceEqDiff, Nat.reduceAdd, Nat.reduceSub, Nat.reduceLT, Nat.reduceMul, Nat.reduceBEq, Nat.reduceLeDiff, ↓reduceIte, Int.reduceToNat, Nat.reduceGT, Int.reduceLE, Int.reduceLT, Int.reduceGE, Int.reduceGT, Int.reduceEq, Int.reduceNe, reduceCtorEq, hwu]
      exact ⟨(k' + 1, h4), by simp only; omega, by simp only; omega, le_mkSl rfl ⟨fun _ _ h => h, fun _ _ h => h, List.sublist_cons_self _ _, fun _ h => h⟩ (by rw [htk]; simp [go_sem, hwu, strsAV, ptr0])⟩
    · have e0 : k' = f.params.length := by simp at b1; omega
      subst e0
      rw [List.take_length]
      refine draw_by (mu := []) (fun _ => True) (.take 0 (.take 1 (.take 2 (.take 3 (.take 4 (.take 6 (.br 5 (.br 7 (.done) (.stop)) (.stop)))))))) (by decide +kernel) trivial (by decide +kernel) (by decide +kernel) ?_
      simp only [go_sem, Nat.reduceEqDiff, Nat.reduceAdd, Nat.reduceSub, Nat.reduceLT, Nat.reduceMul, Nat.reduceBEq, Nat.reduceLeDiff, ↓reduceIte, Int.reduceToNat, Nat.reduceGT, Int.reduceLE, Int.reduceLT, Int.reduceGE, Int.reduceGT, Int.reduceEq, Int.reduceNe, reduceCtorEq, FunG.cs, ((AV.cells.eq_1 _).symm.trans ok2.cells), ok2.one]
      have c1 := fun hp => rextend_calls .nil (.v (.pointer none)) .nil h3 (f.params.map ParamG.name) h got gs hg (by rw [List.length_map]; omega) (by omega) hp
      simp only [strsAV] at c1
      refine callX_by (c1 _) ?_
      rintro r hp1 ⟨hr, rfl⟩
      have or1 := hr.o
      simp only [go_sem, Nat.reduceEqDiff, Nat.reduceAdd, Nat.reduceSub, Nat.reduceLT, Nat.reduceMul, Nat.reduceBEq, Nat.reduceLeDiff, ↓reduceIte, Int.reduceToNat, Nat.reduceGT, Int.reduceLE, Int.reduceLT, Int.reduceGE, Int.reduceGT, Int.reduceEq, Int.reduceNe, reduceCtorEq, ((AV.cells.eq_1 _).symm.trans or1.cells), or1.one, ((AV.cells.eq_1 _).symm.trans ok2.cells), ok2.one]
      have c := fun hp hb => reval_calls b p fuel s f.body r ka or1 ok2 hp hb
      simp only [ptr0, TermG.av, TermG.cs_eq] at c
      refine callX_by (c _ hb0) ?_
      clear c
      rintro r' hp2 ⟨rfl, rfl⟩
      exact ret_le (le_sp1 ..) ⟨rfl, _, rfl, rfl, rfl, rfl, rfl, rfl, rfl, ⟨rfl, rfl, hr, hk⟩⟩
end Go.Proofs.YtkoachnlimebaaaGreatDoor
/- The reference of direct evaluation: an application binds what needs no evaluation. -/
set_option linter.unusedSimpArgs false
set_option linter.unusedVariables false
set_option maxRecDepth 20000
set_option maxHeartbeats 4000000
namespace Go.Proofs.YtkoachnlimebaaaGreatDoor
open Go.AL

theorem QB.all_one {b : BndG} {cs : List AV} (h : QB b cs) : cs.all AV.one = true := by
  obtain ⟨a0, a1, a2, a3, a4, a5, a6, a7, a8, a9, a10, a11, a12, a13, rfl, o0, o1, o2, o3, o4, o5, o6, o7, o8, o9, o10, o11, o12, o13⟩ := h.ones
  simp [o0.one, o1.one, o2.one, o3.one, o4.one, o5.one, o6.one, o7.one, o8.one, o9.one, o10.one, o11.one, o12.one, o13.one]
theorem QBs.all_one : ∀ {l : List BndG} {gs : List AV}, QBs l gs → (gs.flatMap AV.cells).all AV.one = true
  | [], _, h => by cases h; rfl
  | b :: l, _, h => by
    cases h with | cons _ x _ r hb hr =>
    rw [List.flatMap_cons, List.all_append, hr.all_one, Bool.and_true]
    have := hb.all_one
    simpa only [AV.cells] using this
theorem rbindMore_calls (b : Nat) (p : ProgG) (fuel : Int) (s : RS) (t : TermG) {V L : Bytes → Bool} (ok : AppOk p V L t) (h2 : t.op ≠ 2) {e : EnvG} {ea : AV} (he : QE e ea) {got : List BndG} (h : Value) {gs : List AV} (hg : QBs got gs) {k : FrmG} {ka : AV} (hk : QK k ka)
    (hl : got.length ≤ (typesG p.ds p.fs t).length) (hp : Hp) (hb : hp.blk b = some (100, s.cs p fuel)) :
    ACalls Tryz.prog 92 [ptr0 b, t.av, ea, .lst 14 h gs, ka] hp (RMvR p fuel b hp s (applyG p.ds p.fs t e got k)) := by
  have hpr := runp_ok ok.pr
  have hdl := hpr.hdl
  have hn := ok.nd
  have hb0 := hb
  obtain ⟨n1, n2, n3, n4⟩ := node_arity hn ok.ap
  have hl6 : (typesG p.ds p.fs t).length ≤ 6 := types_len ok
  have oe := he.o
  have ok2 := hk.o
  refine acalls_of Tryz.func92 rfl (by decide +kernel) (awp_sound (mu := []) _ _ _ ?_)
  simp only [go_sem, Nat.reduceEqDiff, Nat.reduceAdd, Nat.reduceSub, Nat.reduceLT, Nat.reduceMul, Nat.reduceBEq, Nat.reduceLeDiff, ↓reduceIte, Int.reduceToNat, Nat.reduceGT, Int.reduceLE, Int.reduceLT, Int.reduceGE, Int.reduceGT, Int.reduceEq, Int.reduceNe, reduceCtorEq, TermG.av, TermG.cs_eq, ptr0]
  intro q
  have c := rtypes_calls b p fuel s t ok h2 hp hb0
  simp only [TermG.av, TermG.cs_eq, ptr0] at c
  refine callX_by c ?_
  clear c
  rintro r hp' ⟨hy, rfl, rfl⟩
  simp only [go_sem, Nat.reduceEqDiff, Nat.reduceAdd, Nat.reduceSub, Nat.reduceLT, Nat.reduceMul, Nat.reduceBEq, Nat.reduceLeDiff, ↓reduceIte, Int.reduceToNat, Nat.reduceGT, Int.reduceLE, Int.reduceLT, Int.reduceGE, Int.reduceGT, Int.reduceEq, Int.reduceNe, reduceCtorEq]
  refine aw_loopX 56 (fun y : List BndG × List AV × Value => [(0, ptr0 b), (2, ea), (3, .lst 14 y.2.2 y.2.1), (4, ka), (6, .ref q [.v (.int .i64 t.op), .v (.int .i64 t.n), .v (.string (bs t.name)), .v (.int .i64 t.ty), .lst 6 t.ha (t.args.map TermG.av), .lst 7 t.hc (t.cls.map ClauseG.av)]), (10, intsAV hy (typesG p.ds p.fs t))])
    (fun _ => hp') (fun y => QBs y.1 y.2.1 ∧ y.1.length ≤ (typesG p.ds p.fs t).length ∧ applyG p.ds p.fs t e y.1 k = applyG p.ds p.fs t e got k) (fun y => (typesG p.ds p.fs t).length - y.1.length) (got, gs, h) ⟨hg, hl, rfl⟩
    (le_mkSl rfl (Hp.le_refl _) (by simp [go_sem, ptr0])) ?_
  rintro ⟨got, gs, h⟩ ⟨hg, hl, hap⟩
  simp only at hg hl hap
  have hal := hg.len
  refine awp_sound (mu := []) _ _ _ ?_
  simp only [go_sem, Nat.reduceEqDiff, Nat.reduceAdd, Nat.reduceSub, Nat.reduceLT, Nat.reduceMul, Nat.reduceBEq, Nat.reduceLeDiff, ↓reduceIte, Int.reduceToNat, Nat.reduceGT, Int.reduceLE, Int.reduceLT, Int.reduceGE, Int.reduceGT, Int.reduceEq, Int.reduceNe, reduceCtorEq, ptr0, intsAV, List.length_map]
  refine brK_mk (fun g => ?_) (fun g => ?_) <;> simp only [go_sem, Nat.reduceEqDiff, Nat.reduceAdd, Nat.reduceSub, Nat.reduceLT, Nat.reduceMul, Nat.reduceBEq, Nat.reduceLeDiff, ↓reduceIte, Int.reduceToNat, Nat.reduceGT, Int.reduceLE, Int.reduceLT, Int.reduceGE, Int.reduceGT, Int.reduceEq, Int.reduceNe, reduceCtorEq, g]
  · have hlt : got.length < (typesG p.ds p.fs t).length := by have := of_decide_eq_true g; rw [hal] at this; omega
    obtain ⟨ty, hty⟩ := someAt (typesG p.ds p.fs t) got.length hlt
    obtain ⟨a, ha⟩ := someAt t.args got.length (by omega)
    have hstep := applyG_step (e := e) (k := k) hty ha
    have htr := types_in ok.pr hn ty (List.mem_of_getElem? hty)
    simp only [go_sem, Nat.reduceEqDiff, Nat.reduceAdd, Nat.reduceSub, Nat.reduceLT, Nat.reduceMul, Nat.reduceBEq, Nat.reduceLeDiff, ↓reduceIte, Int.reduceToNat, Nat.reduceGT, Int.reduceLE, Int.reduceLT, Int.reduceGE, Int.reduceGT, Int.reduceEq, Int.reduceNe, reduceCtorEq, hal, mapAt TermG.av _ _ _ ha, TermG.av, TermG.cs_eq]
    intro v hv
    have hds := fun T cs => Hp.del_set _ _ T cs hv.1
    simp only [go_sem, Nat.reduceEqDiff, Nat.reduceAdd, Nat.reduceSub, Nat.reduceLT, Nat.reduceMul, Nat.reduceBEq, Nat.reduceLeDiff, ↓reduceIte, Int.reduceToNat, Nat.reduceGT, Int.reduceLE, Int.reduceLT, Int.reduceGE, Int.reduceGT, Int.reduceEq, Int.reduceNe, reduceCtorEq, hds, hal, mapAt iv _ _ _ hty, iv]
    have c := rpositive_calls b p fuel s ty htr.1 htr.2 hp' hb0
    simp only [ptr0] at c
    refine callX_by c ?_
    clear c
    rintro r hp1 ⟨rfl, rfl⟩
    cases hpl : plusB p.ds ty with
    | true =>
      simp only [go_sem, Nat.reduceEqDiff, Nat.reduceAdd, Nat.reduceSub, Nat.reduceLT, Nat.reduceMul, Nat.reduceBEq, Nat.reduceLeDiff, ↓reduceIte, Int.reduceToNat, Nat.reduceGT, Int.reduceLE, Int.reduceLT, Int.reduceGE, Int.reduceGT, Int.reduceEq, Int.reduceNe, reduceCtorEq, hpl, ((AV.cells.eq_1 _).symm.trans oe.cells), oe.one, ((AV.cells.eq_1 _).symm.trans ok2.cells), ok2.one]
      intro q2
      have c := fun hp hb => reval_calls b p fuel s a ea (.ref q2 [.v (.int .i64 1), .v (.int .i64 t.op), .v (.int .i64 t.n), .v (.string (bs t.name)), .v (.int .i64 t.ty), .lst 6 t.ha (t.args.map TermG.av), .lst 7 t.hc (t.cls.map ClauseG.av), ea, .lst 14 h gs, .v (.int .i64 0), ka]) oe ⟨rfl, rfl⟩ hp hb
      simp only [ptr0, TermG.av, TermG.cs_eq] at c
      refine callX_by (c _ hb0) ?_
      clear c
      rintro r hp2 ⟨rfl, rfl⟩
      refine ret_same ⟨rfl, _, rfl, rfl, rfl, rfl, rfl, rfl, rfl, ?_⟩
      rw [← hap, hstep, if_pos hpl]
      exact ⟨rfl, rfl, he, .bnd _ _ _ _ _ _ _ _ _ h2 he hg hk⟩
    | false =>
      rw [if_neg (by simp [hpl])] at hstep
      simp only [go_sem, Nat.reduceEqDiff, Nat.reduceAdd, Nat.reduceSub, Nat.reduceLT, Nat.reduceMul, Nat.reduceBEq, Nat.reduceLeDiff, ↓reduceIte, Int.reduceToNat, Nat.reduceGT, Int.reduceLE, Int.reduceLT, Int.reduceGE, Int.reduceGT, Int.reduceEq, Int.reduceNe, reduceCtorEq, hpl, ((AV.cells.eq_1 _).symm.trans oe.cells), oe.one, ((AV.cells.eq_1 _).symm.trans ok2.cells), ok2.one]
      refine draw_by (mu := []) (fun _ => True) (.take 0 (.take 2 (.take 3 (.br 1 (.br 4 (.br 5 (.br 6 (.take 7 (.done)) (.stop)) (.stop)) (.stop)) (.br 4 (.br 1 (.br 5 (.br 6 (.take 7 (.done)) (.stop)) (.stop)) (.br 5 (.br 1 (.br 6 (.take 7 (.done)) (.stop)) (.stop)) (.stop))) (.stop)))))) (by decide +kernel) trivial (by decide +kernel) (by decide +kernel) ?_
      simp (maxSteps := 4000000) only [go_sem, Nat.reduceEqDiff, Nat.reduceAdd, Nat.reduceSub, Nat.reduceLT, Nat.reduceMul, Nat.reduceBEq, Nat.reduceLeDiff, ↓reduceIte, Int.reduceToNat, Nat.reduceGT, Int.reduceLE, Int.reduceLT, Int.reduceGE, Int.reduceGT, Int.reduceEq, Int.reduceNe, reduceCtorEq, hal, ((AV.cells.eq_1 _).symm.trans oe.cells), oe.one, ((AV.cells.eq_1 _).symm.trans ok2.cells), ok2.one]
      have ho := hg.all_one
      repeat' first
        | (refine append0_by Tryz.k95 Tryz.s103 Tryz.y103 Tryz.z103 rfl (by decide) rfl (Cast.nil 14) rfl (Cast.refl _) ho (by simp [maxLen]; omega) (by omega) (by simp [go_sem]) (fun h4 => ?_); try simp only [go_sem, Nat.reduceEqDiff, Nat.reduceAdd, Nat.reduceSub, Nat.reduceLT, Nat.reduceMul, Nat.reduceBEq, Nat.reduceLeDiff, ↓reduceIte, Int.reduceToNat, Nat.reduceGT, Int.reduceLE, Int.reduceLT, Int.reduceGE, Int.reduceGT, Int.reduceEq, Int.reduceNe, reduceCtorEq, ((AV.cells.eq_1 _).symm.trans oe.cells), oe.one, ((AV.cells.eq_1 _).symm.trans ok2.cells), ok2.one])
        | (refine append_at 0 Tryz.k95 Tryz.s103 Tryz.y103 Tryz.z103 rfl (by decide) rfl (Cast.refl _) rfl (Cast.refl _) rfl (by simp [go_sem, oe.one]) (by simp [maxLen]; omega) (by first | omega | (simp; omega)) (by simp [go_sem]) (fun h5 => ?_); try simp only [go_sem, Nat.reduceEqDiff, Nat.reduceAdd, Nat.reduceSub, Nat.reduceLT, Nat.reduceMul, Nat.reduceBEq, Nat.reduceLeDiff, ↓reduceIte, Int.reduceToNat, Nat.reduceGT, Int.reduceLE, Int.reduceLT, Int.reduceGE, Int.reduceGT, Int.reduceEq, Int.reduceNe, reduceCtorEq])
        | (refine append_at 1 Tryz.k95 Tryz.s103 Tryz.y103 Tryz.z103 rfl (by decide) rfl (Cast.refl _) rfl (Cast.refl _) rfl (by simp [go_sem, oe.one]) (by simp [maxLen]; omega) (by first | omega | (simp; omega)) (by simp [go_sem]) (fun h5 => ?_); try simp only [go_sem, Nat.reduceEqDiff, Nat.reduceAdd, Nat.reduceSub, Nat.reduceLT, Nat.reduceMul, Nat.reduceBEq, Nat.reduceLeDiff, ↓reduceIte, Int.reduceToNat, Nat.reduceGT, Int.reduceLE, Int.reduceLT, Int.reduceGE, Int.reduceGT, Int.reduceEq, Int.reduceNe, reduceCtorEq])
        | (refine append_at 2 Tryz.k95 Tryz.s103 Tryz.y103 Tryz.z103 rfl (by decide) rfl (Cast.refl _) rfl (Cast.refl _) rfl (by simp [go_sem, oe.one]) (by simp [maxLen]; omega) (by first | omega | (simp; omega)) (by simp [go_sem]) (fun h5 => ?_); try simp only [go_sem, Nat.reduceEqDiff, Nat.reduceAdd, Nat.reduceSub, Nat.reduceLT, Nat.reduceMul, Nat.reduceBEq, Nat.reduceLeDiff, ↓reduceIte, Int.reduceToNat, Nat.reduceGT, Int.reduceLE, Int.reduceLT, Int.reduceGE, Int.reduceGT, Int.reduceEq, Int.reduceNe, reduceCtorEq])
        | (refine ⟨rfl, by simp, fun hd => ?_⟩; try simp only [go_sem, Nat.reduceEqDiff, Nat.reduceAdd, Nat.reduceSub, Nat.reduceLT, Nat.reduceMul, Nat.reduceBEq, Nat.reduceLeDiff, ↓reduceIte, Int.reduceToNat, Nat.reduceGT, Int.reduceLE, Int.reduceLT, Int.reduceGE, Int.reduceGT, Int.reduceEq, Int.reduceNe, reduceCtorEq, ((AV.cells.eq_1 _).symm.trans oe.cells), oe.one, ((AV.cells.eq_1 _).symm.trans ok2.cells), ok2.one])
        | (with_reducible refine And.intro ?_ ?_)
      all_goals
        exact ⟨(got ++ [.thunk a e], _, h5), by simp only [List.length_append, List.length_singleton]; omega, ⟨hg.snoc (.thunk a e ea he), by simp only [List.length_append, List.length_singleton]; omega, by rw [← hstep]; exact hap⟩, le_mkSl rfl ⟨fun _ _ h => h, fun _ _ h => h, (List.sublist_cons_self _ _).trans (List.sublist_cons_self _ _), fun _ h => h⟩ (by simp [go_sem, ptr0, intsAV, zvC])⟩
  · have hge : (typesG p.ds p.fs t).length ≤ got.length := by have := of_decide_eq_false g; rw [hal] at this; omega
    have c := rallBound_calls b p fuel s t ok h2 he h hg hk (by omega) hp' hb0
    simp only [TermG.av, TermG.cs_eq, ptr0] at c
    refine callX_by c ?_
    clear c
    intro r hp2 hR
    rw [← applyG_end hge, hap] at hR
    obtain ⟨rfl, s', rfl, hR⟩ := hR
    exact ret_same ⟨rfl, s', rfl, hR⟩
end Go.Proofs.YtkoachnlimebaaaGreatDoor
/- The reference of direct evaluation: a step. -/
set_option linter.unusedSimpArgs false
set_option linter.unusedVariables false
set_option maxRecDepth 20000
set_option maxHeartbeats 4000000
namespace Go.Proofs.YtkoachnlimebaaaGreatDoor
open Go.AL

theorem evalG_app2 {ds : List DeclG} {fs : List FunG} {t : TermG} {e : EnvG} {k : FrmG} (ho : isApp t) : evalG ds fs t e k = applyG ds fs t e [] k := by
  unfold evalG
  rcases ho with o | o | o | o | o <;> simp [o]
theorem rstep_calls (b : Nat) (p : ProgG) (hpr : progB p = true) (fuel : Int) (s : RS) {t : TermG} {e : EnvG} {k : FrmG} (hs : RCtl (.ev t e k) s) (ok : OkC p.ds p.fs (.ev t e k)) (hp : Hp) (hb : hp.blk b = some (100, s.cs p fuel)) :
    ACalls Tryz.prog 47 [ptr0 b] hp (RMvR p fuel b hp s (evalG p.ds p.fs t e k)) := by
  obtain ⟨hgv, rfl, he, hk⟩ := hs
  obtain ⟨⟨V, L, hcov, hva⟩, oke, okk⟩ := ok
  have hn := u_node hva
  have hbm := hb
  simp only [RS.cs] at hbm
  have oe := he.o
  have ok2 := hk.o
  refine acalls_of Tryz.func47 rfl (by decide +kernel) (awp_sound (mu := []) _ _ _ ?_)
  simp only [go_sem, Nat.reduceEqDiff, Nat.reduceAdd, Nat.reduceSub, Nat.reduceLT, Nat.reduceMul, Nat.reduceBEq, Nat.reduceLeDiff, ↓reduceIte, Int.reduceToNat, Nat.reduceGT, Int.reduceLE, Int.reduceLT, Int.reduceGE, Int.reduceGT, Int.reduceEq, Int.reduceNe, reduceCtorEq, ptr0]
  refine draw_by (mu := []) (fun h => h.blk b = some (100, s.cs p fuel)) (.take 0 (.take 1 (.take 2 (.take 3 (.take 4 (.take 5 (.take 6 (.take 7 (.take 8 (.take 9 (.take 10 (.take 11 (.br 12 (.br 13 (.take 14 (.take 15 (.done))) (.stop)) (.stop)))))))))))))) (by decide +kernel) hb (by decide +kernel) (by decide +kernel) ?_
  simp only [go_sem, Nat.reduceEqDiff, Nat.reduceAdd, Nat.reduceSub, Nat.reduceLT, Nat.reduceMul, Nat.reduceBEq, Nat.reduceLeDiff, ↓reduceIte, Int.reduceToNat, Nat.reduceGT, Int.reduceLE, Int.reduceLT, Int.reduceGE, Int.reduceGT, Int.reduceEq, Int.reduceNe, reduceCtorEq, hbm]
  refine ⟨fun h e => by rw [e]; simp only [go_sem, Nat.reduceEqDiff, Nat.reduceAdd, Nat.reduceSub, Nat.reduceLT, Nat.reduceMul, Nat.reduceBEq, Nat.reduceLeDiff, ↓reduceIte, Int.reduceToNat, Nat.reduceGT, Int.reduceLE, Int.reduceLT, Int.reduceGE, Int.reduceGT, Int.reduceEq, Int.reduceNe, reduceCtorEq, RS.cs], fun h e => by rw [e]; simp only [go_sem, Nat.reduceEqDiff, Nat.reduceAdd, Nat.reduceSub, Nat.reduceLT, Nat.reduceMul, Nat.reduceBEq, Nat.reduceLeDiff, ↓reduceIte, Int.reduceToNat, Nat.reduceGT, Int.reduceLE, Int.reduceLT, Int.reduceGE, Int.reduceGT, Int.reduceEq, Int.reduceNe, reduceCtorEq, RS.cs], fun h e => by rw [e]; simp only [go_sem, Nat.reduceEqDiff, Nat.reduceAdd, Nat.reduceSub, Nat.reduceLT, Nat.reduceMul, Nat.reduceBEq, Nat.reduceLeDiff, ↓reduceIte, Int.reduceToNat, Nat.reduceGT, Int.reduceLE, Int.reduceLT, Int.reduceGE, Int.reduceGT, Int.reduceEq, Int.reduceNe, reduceCtorEq, RS.cs], fun b2 hb2 => ?_⟩
  have nb : (b = b2) = False := eq_false (by rintro rfl; have := hb2.1; rw [hb] at this; cases this)
  have hds2 := fun T cs => Hp.del_set _ _ T cs hb2.1
  simp only [go_sem, Nat.reduceEqDiff, Nat.reduceAdd, Nat.reduceSub, Nat.reduceLT, Nat.reduceMul, Nat.reduceBEq, Nat.reduceLeDiff, ↓reduceIte, Int.reduceToNat, Nat.reduceGT, Int.reduceLE, Int.reduceLT, Int.reduceGE, Int.reduceGT, Int.reduceEq, Int.reduceNe, reduceCtorEq, nb, hds2, hbm]
  refine ⟨by simp only [RS.cs], by simp only [RS.cs], ?_⟩
  rcases op_cases hn with o | o | o | o | o | o | o | o | o | o | o | o | o
  · simp [nodeB, o] at hn
    obtain ⟨bd, hbd⟩ := hcov.1 s.t.name hn.2
    simp only [go_sem, Nat.reduceEqDiff, Nat.reduceAdd, Nat.reduceSub, Nat.reduceLT, Nat.reduceMul, Nat.reduceBEq, Nat.reduceLeDiff, ↓reduceIte, Int.reduceToNat, Nat.reduceGT, Int.reduceLE, Int.reduceLT, Int.reduceGE, Int.reduceGT, Int.reduceEq, Int.reduceNe, reduceCtorEq, hds2, o, decide_true]
    refine callX_by (rfindV_calls e s.ea he s.t.name _) ?_
    rintro r hp2 ⟨rfl, hf⟩
    obtain ⟨q, x0, x1, cs, x3, x4, hQB, rfl⟩ := hf bd hbd
    cases hQB with
    | val w cs hw =>
      have hev : evalG p.ds p.fs s.t e k = .gv w k := by unfold evalG; rw [if_pos o, hbd]
      rw [hev]
      obtain ⟨a0, a1, a2, a3, a4, a5, rfl, o0, o1, o2, o3, o4, o5⟩ := hw.ones
      simp only [go_sem, Nat.reduceEqDiff, Nat.reduceAdd, Nat.reduceSub, Nat.reduceLT, Nat.reduceMul, Nat.reduceBEq, Nat.reduceLeDiff, ↓reduceIte, Int.reduceToNat, Nat.reduceGT, Int.reduceLE, Int.reduceLT, Int.reduceGE, Int.reduceGT, Int.reduceEq, Int.reduceNe, reduceCtorEq, hds2, ztC, List.cons_append, List.nil_append, ((AV.cells.eq_1 _).symm.trans o0.cells), o0.one, ((AV.cells.eq_1 _).symm.trans o1.cells), o1.one, ((AV.cells.eq_1 _).symm.trans o2.cells), o2.one, ((AV.cells.eq_1 _).symm.trans o3.cells), o3.one, ((AV.cells.eq_1 _).symm.trans o4.cells), o4.one, ((AV.cells.eq_1 _).symm.trans o5.cells), o5.one]
      intro b5 hb5
      have hds5 := fun T cs => Hp.del_set _ _ T cs hb5.1
      simp only [go_sem, Nat.reduceEqDiff, Nat.reduceAdd, Nat.reduceSub, Nat.reduceLT, Nat.reduceMul, Nat.reduceBEq, Nat.reduceLeDiff, ↓reduceIte, Int.reduceToNat, Nat.reduceGT, Int.reduceLE, Int.reduceLT, Int.reduceGE, Int.reduceGT, Int.reduceEq, Int.reduceNe, reduceCtorEq, hds2, hds5, ((AV.cells.eq_1 _).symm.trans o0.cells), o0.one, ((AV.cells.eq_1 _).symm.trans o1.cells), o1.one, ((AV.cells.eq_1 _).symm.trans o2.cells), o2.one, ((AV.cells.eq_1 _).symm.trans o3.cells), o3.one, ((AV.cells.eq_1 _).symm.trans o4.cells), o4.one, ((AV.cells.eq_1 _).symm.trans o5.cells), o5.one]
      have c := fun hp hb => rpass_calls b p fuel s a0 a1 a2 a3 a4 a5 s.ka o0 o1 o2 o3 o4 o5 ok2 hp hb
      simp only [ptr0] at c
      refine callX_by (c _ hb) ?_
      rintro r hp2 ⟨rfl, rfl⟩
      exact ret_same ⟨rfl, _, rfl, rfl, rfl, rfl, rfl, rfl, rfl, ⟨rfl, hw, hk⟩⟩
    | thunk t' e' ea' he' =>
      have hev : evalG p.ds p.fs s.t e k = .ev t' e' k := by unfold evalG; rw [if_pos o, hbd]
      rw [hev]
      have oe' := he'.o
      simp only [go_sem, Nat.reduceEqDiff, Nat.reduceAdd, Nat.reduceSub, Nat.reduceLT, Nat.reduceMul, Nat.reduceBEq, Nat.reduceLeDiff, ↓reduceIte, Int.reduceToNat, Nat.reduceGT, Int.reduceLE, Int.reduceLT, Int.reduceGE, Int.reduceGT, Int.reduceEq, Int.reduceNe, reduceCtorEq, hds2, zvC, List.cons_append, List.nil_append, ((AV.cells.eq_1 _).symm.trans oe'.cells), oe'.one]
      intro b5 hb5
      have hds5 := fun T cs => Hp.del_set _ _ T cs hb5.1
      simp only [go_sem, Nat.reduceEqDiff, Nat.reduceAdd, Nat.reduceSub, Nat.reduceLT, Nat.reduceMul, Nat.reduceBEq, Nat.reduceLeDiff, ↓reduceIte, Int.reduceToNat, Nat.reduceGT, Int.reduceLE, Int.reduceLT, Int.reduceGE, Int.reduceGT, Int.reduceEq, Int.reduceNe, reduceCtorEq, hds2, hds5, ((AV.cells.eq_1 _).symm.trans oe'.cells), oe'.one]
      have c := fun hp hb => reval_calls b p fuel s t' ea' s.ka oe' ok2 hp hb
      simp only [ptr0, TermG.av, TermG.cs_eq] at c
      refine callX_by (c _ hb) ?_
      rintro r hp2 ⟨rfl, rfl⟩
      exact ret_same ⟨rfl, _, rfl, rfl, rfl, rfl, rfl, rfl, rfl, ⟨rfl, rfl, he', hk⟩⟩
  · have hev : evalG p.ds p.fs s.t e k = .gv (.int s.t.n) k := by unfold evalG; simp [o]
    rw [hev]
    simp only [go_sem, Nat.reduceEqDiff, Nat.reduceAdd, Nat.reduceSub, Nat.reduceLT, Nat.reduceMul, Nat.reduceBEq, Nat.reduceLeDiff, ↓reduceIte, Int.reduceToNat, Nat.reduceGT, Int.reduceLE, Int.reduceLT, Int.reduceGE, Int.reduceGT, Int.reduceEq, Int.reduceNe, reduceCtorEq, hds2, o, decide_false, decide_true]
    have c := fun hp hb => rpass_calls b p fuel s (.v (.int .i64 0)) (.v (.int .i64 s.t.n)) (.v (.int .i64 0)) (.v (.slice none 0 0)) (.v (.slice none 0 0)) (.v (.pointer none)) s.ka ⟨rfl, rfl⟩ ⟨rfl, rfl⟩ ⟨rfl, rfl⟩ ⟨rfl, rfl⟩ ⟨rfl, rfl⟩ ⟨rfl, rfl⟩ ok2 hp hb
    simp only [ptr0] at c
    refine callX_by (c _ hb) ?_
    rintro r hp2 ⟨rfl, rfl⟩
    exact ret_same ⟨rfl, _, rfl, rfl, rfl, rfl, rfl, rfl, rfl, ⟨rfl, .int _, hk⟩⟩
  · simp [nodeB, o] at hn
    obtain ⟨a, ha⟩ := someAt s.t.args 0 (by omega)
    have hev : evalG p.ds p.fs s.t e k = .ev a e (.app s.t e [] k) := by
      rw [evalG_app2 (by simp [isApp, o]), applyG_step (ty := 0) (a := a) (by simp [typesG, o]) (by simpa using ha), if_pos (by simp [plusB])]
    rw [hev]
    simp only [go_sem, Nat.reduceEqDiff, Nat.reduceAdd, Nat.reduceSub, Nat.reduceLT, Nat.reduceMul, Nat.reduceBEq, Nat.reduceLeDiff, ↓reduceIte, Int.reduceToNat, Nat.reduceGT, Int.reduceLE, Int.reduceLT, Int.reduceGE, Int.reduceGT, Int.reduceEq, Int.reduceNe, reduceCtorEq, hds2, o, decide_false, decide_true]
    refine draw_by (mu := []) (fun _ => True) (.take 0 (.take 1 (.take 2 (.take 3 (.take 4 (.take 5 (.take 6 (.take 7 (.take 8 (.br 9 (.br 10 (.br 11 (.done) (.stop)) (.stop)) (.stop))))))))))) (by decide +kernel) trivial (by decide +kernel) (by decide +kernel) ?_
    simp only [go_sem, Nat.reduceEqDiff, Nat.reduceAdd, Nat.reduceSub, Nat.reduceLT, Nat.reduceMul, Nat.reduceBEq, Nat.reduceLeDiff, ↓reduceIte, Int.reduceToNat, Nat.reduceGT, Int.reduceLE, Int.reduceLT, Int.reduceGE, Int.reduceGT, Int.reduceEq, Int.reduceNe, reduceCtorEq, hds2, mapAt TermG.av _ _ _ ha, TermG.av, TermG.cs_eq, ((AV.cells.eq_1 _).symm.trans oe.cells), oe.one, ((AV.cells.eq_1 _).symm.trans ok2.cells), ok2.one]
    intro q2
    have hko := QK.rgt s.t e k s.ea s.ka q2 o he hk
    simp only [o] at hko
    have c := fun hp hb => reval_calls b p fuel s a s.ea _ oe hko.o hp hb
    simp only [ptr0, TermG.av, TermG.cs_eq] at c
    refine callX_by (c _ hb) ?_
    clear c
    rintro r hp2 ⟨rfl, rfl⟩
    exact ret_same ⟨rfl, _, rfl, rfl, rfl, rfl, rfl, rfl, rfl, ⟨rfl, rfl, he, hko⟩⟩
  · simp [nodeB, o] at hn
    obtain ⟨a, ha⟩ := someAt s.t.args 0 (by omega)
    have hev : evalG p.ds p.fs s.t e k = .ev a e (.tst s.t e k) := by
      unfold evalG; simp [o, argK', ha]
    rw [hev]
    simp only [go_sem, Nat.reduceEqDiff, Nat.reduceAdd, Nat.reduceSub, Nat.reduceLT, Nat.reduceMul, Nat.reduceBEq, Nat.reduceLeDiff, ↓reduceIte, Int.reduceToNat, Nat.reduceGT, Int.reduceLE, Int.reduceLT, Int.reduceGE, Int.reduceGT, Int.reduceEq, Int.reduceNe, reduceCtorEq, hds2, o, decide_false, decide_true]
    refine draw_by (mu := []) (fun _ => True) (.take 0 (.take 1 (.take 2 (.take 3 (.take 4 (.take 5 (.take 6 (.take 7 (.take 8 (.br 9 (.br 10 (.br 11 (.done) (.stop)) (.stop)) (.stop))))))))))) (by decide +kernel) trivial (by decide +kernel) (by decide +kernel) ?_
    simp only [go_sem, Nat.reduceEqDiff, Nat.reduceAdd, Nat.reduceSub, Nat.reduceLT, Nat.reduceMul, Nat.reduceBEq, Nat.reduceLeDiff, ↓reduceIte, Int.reduceToNat, Nat.reduceGT, Int.reduceLE, Int.reduceLT, Int.reduceGE, Int.reduceGT, Int.reduceEq, Int.reduceNe, reduceCtorEq, hds2, mapAt TermG.av _ _ _ ha, TermG.av, TermG.cs_eq, ((AV.cells.eq_1 _).symm.trans oe.cells), oe.one, ((AV.cells.eq_1 _).symm.trans ok2.cells), ok2.one]
    intro q2
    have hko := QK.brn s.t e k s.ea s.ka q2 o he hk
    simp only [o] at hko
    have c := fun hp hb => reval_calls b p fuel s a s.ea _ oe hko.o hp hb
    simp only [ptr0, TermG.av, TermG.cs_eq] at c
    refine callX_by (c _ hb) ?_
    clear c
    rintro r hp2 ⟨rfl, rfl⟩
    exact ret_same ⟨rfl, _, rfl, rfl, rfl, rfl, rfl, rfl, rfl, ⟨rfl, rfl, he, hko⟩⟩
  · have hap : isApp s.t := by simp [isApp, o]
    rw [evalG_app2 hap]
    have c := fun (X : Hp) hX => acalls_cast (args := [ptr0 b, s.t.av, s.ea, .lst 14 (.slice none 0 0) [], s.ka]) (args' := [ptr0 b, s.t.av, s.ea, .v (.slice none 0 0), s.ka]) rfl (fun m h => ⟨h.1, h.2.1, h.2.2.1, (Cast.nil 14).2 m trivial, h.2.2.2.2⟩) (rbindMore_calls b p fuel s s.t (V := V) (L := L) ⟨hpr, hva, hap⟩ (by omega) he (got := []) (.slice none 0 0) .nil hk (Nat.zero_le _) X hX)
    simp only [ptr0, TermG.av, TermG.cs_eq, o] at c
    simp only [go_sem, Nat.reduceEqDiff, Nat.reduceAdd, Nat.reduceSub, Nat.reduceLT, Nat.reduceMul, Nat.reduceBEq, Nat.reduceLeDiff, ↓reduceIte, Int.reduceToNat, Nat.reduceGT, Int.reduceLE, Int.reduceLT, Int.reduceGE, Int.reduceGT, Int.reduceEq, Int.reduceNe, reduceCtorEq, hds2, o, decide_false, decide_true]
    refine callX_by (c _ hb) ?_
    rintro r hp2 ⟨rfl, s', rfl, hR⟩
    exact ret_same ⟨rfl, s', rfl, hR⟩
  · simp [nodeB, o] at hn
    obtain ⟨a, ha⟩ := someAt s.t.args 0 (by omega)
    have hev : evalG p.ds p.fs s.t e k = .ev a e (.cas s.t e k) := by
      unfold evalG; simp [o, argK', ha]
    rw [hev]
    simp only [go_sem, Nat.reduceEqDiff, Nat.reduceAdd, Nat.reduceSub, Nat.reduceLT, Nat.reduceMul, Nat.reduceBEq, Nat.reduceLeDiff, ↓reduceIte, Int.reduceToNat, Nat.reduceGT, Int.reduceLE, Int.reduceLT, Int.reduceGE, Int.reduceGT, Int.reduceEq, Int.reduceNe, reduceCtorEq, hds2, o, decide_false, decide_true]
    refine draw_by (mu := []) (fun _ => True) (.take 0 (.take 1 (.take 2 (.take 3 (.take 4 (.take 5 (.take 6 (.take 7 (.take 8 (.br 9 (.br 10 (.br 11 (.done) (.stop)) (.stop)) (.stop))))))))))) (by decide +kernel) trivial (by decide +kernel) (by decide +kernel) ?_
    simp only [go_sem, Nat.reduceEqDiff, Nat.reduceAdd, Nat.reduceSub, Nat.reduceLT, Nat.reduceMul, Nat.reduceBEq, Nat.reduceLeDiff, ↓reduceIte, Int.reduceToNat, Nat.reduceGT, Int.reduceLE, Int.reduceLT, Int.reduceGE, Int.reduceGT, Int.reduceEq, Int.reduceNe, reduceCtorEq, hds2, mapAt TermG.av _ _ _ ha, TermG.av, TermG.cs_eq, ((AV.cells.eq_1 _).symm.trans oe.cells), oe.one, ((AV.cells.eq_1 _).symm.trans ok2.cells), ok2.one]
    intro q2
    have hko := QK.cas s.t e k s.ea s.ka q2 he hk
    simp only [o] at hko
    have c := fun hp hb => reval_calls b p fuel s a s.ea _ oe hko.o hp hb
    simp only [ptr0, TermG.av, TermG.cs_eq] at c
    refine callX_by (c _ hb) ?_
    clear c
    rintro r hp2 ⟨rfl, rfl⟩
    exact ret_same ⟨rfl, _, rfl, rfl, rfl, rfl, rfl, rfl, rfl, ⟨rfl, rfl, he, hko⟩⟩
  · have hap : isApp s.t := by simp [isApp, o]
    rw [evalG_app2 hap]
    have c := fun (X : Hp) hX => acalls_cast (args := [ptr0 b, s.t.av, s.ea, .lst 14 (.slice none 0 0) [], s.ka]) (args' := [ptr0 b, s.t.av, s.ea, .v (.slice none 0 0), s.ka]) rfl (fun m h => ⟨h.1, h.2.1, h.2.2.1, (Cast.nil 14).2 m trivial, h.2.2.2.2⟩) (rbindMore_calls b p fuel s s.t (V := V) (L := L) ⟨hpr, hva, hap⟩ (by omega) he (got := []) (.slice none 0 0) .nil hk (Nat.zero_le _) X hX)
    simp only [ptr0, TermG.av, TermG.cs_eq, o] at c
    simp only [go_sem, Nat.reduceEqDiff, Nat.reduceAdd, Nat.reduceSub, Nat.reduceLT, Nat.reduceMul, Nat.reduceBEq, Nat.reduceLeDiff, ↓reduceIte, Int.reduceToNat, Nat.reduceGT, Int.reduceLE, Int.reduceLT, Int.reduceGE, Int.reduceGT, Int.reduceEq, Int.reduceNe, reduceCtorEq, hds2, o, decide_false, decide_true]
    refine callX_by (c _ hb) ?_
    rintro r hp2 ⟨rfl, s', rfl, hR⟩
    exact ret_same ⟨rfl, s', rfl, hR⟩
  · have hev : evalG p.ds p.fs s.t e k = .gv (.obj s.t e) k := by unfold evalG; simp [o]
    rw [hev]
    simp only [go_sem, Nat.reduceEqDiff, Nat.reduceAdd, Nat.reduceSub, Nat.reduceLT, Nat.reduceMul, Nat.reduceBEq, Nat.reduceLeDiff, ↓reduceIte, Int.reduceToNat, Nat.reduceGT, Int.reduceLE, Int.reduceLT, Int.reduceGE, Int.reduceGT, Int.reduceEq, Int.reduceNe, reduceCtorEq, hds2, o, decide_false, decide_true, ((AV.cells.eq_1 _).symm.trans oe.cells), oe.one, ((AV.cells.eq_1 _).symm.trans ok2.cells), ok2.one]
    have c := fun hp hb => rpass_calls b p fuel s (.v (.int .i64 2)) (.v (.int .i64 0)) (.v (.int .i64 s.t.ty)) (.v (.slice none 0 0)) (.lst 7 s.t.hc (s.t.cls.map ClauseG.av)) s.ea s.ka ⟨rfl, rfl⟩ ⟨rfl, rfl⟩ ⟨rfl, rfl⟩ ⟨rfl, rfl⟩ ⟨rfl, rfl⟩ oe ok2 hp hb
    simp only [ptr0] at c
    refine callX_by (c _ hb) ?_
    rintro r hp2 ⟨rfl, rfl⟩
    exact ret_same ⟨rfl, _, rfl, rfl, rfl, rfl, rfl, rfl, rfl, ⟨rfl, .obj _ _ _ he, hk⟩⟩
  · have hap : isApp s.t := by simp [isApp, o]
    rw [evalG_app2 hap]
    have c := fun (X : Hp) hX => acalls_cast (args := [ptr0 b, s.t.av, s.ea, .lst 14 (.slice none 0 0) [], s.ka]) (args' := [ptr0 b, s.t.av, s.ea, .v (.slice none 0 0), s.ka]) rfl (fun m h => ⟨h.1, h.2.1, h.2.2.1, (Cast.nil 14).2 m trivial, h.2.2.2.2⟩) (rbindMore_calls b p fuel s s.t (V := V) (L := L) ⟨hpr, hva, hap⟩ (by omega) he (got := []) (.slice none 0 0) .nil hk (Nat.zero_le _) X hX)
    simp only [ptr0, TermG.av, TermG.cs_eq, o] at c
    simp only [go_sem, Nat.reduceEqDiff, Nat.reduceAdd, Nat.reduceSub, Nat.reduceLT, Nat.reduceMul, Nat.reduceBEq, Nat.reduceLeDiff, ↓reduceIte, Int.reduceToNat, Nat.reduceGT, Int.reduceLE, Int.reduceLT, Int.reduceGE, Int.reduceGT, Int.reduceEq, Int.reduceNe, reduceCtorEq, hds2, o, decide_false, decide_true]
    refine callX_by (c _ hb) ?_
    rintro r hp2 ⟨rfl, s', rfl, hR⟩
    exact ret_same ⟨rfl, s', rfl, hR⟩
  · have hap : isApp s.t := by simp [isApp, o]
    rw [evalG_app2 hap]
    have c := fun (X : Hp) hX => acalls_cast (args := [ptr0 b, s.t.av, s.ea, .lst 14 (.slice none 0 0) [], s.ka]) (args' := [ptr0 b, s.t.av, s.ea, .v (.slice none 0 0), s.ka]) rfl (fun m h => ⟨h.1, h.2.1, h.2.2.1, (Cast.nil 14).2 m trivial, h.2.2.2.2⟩) (rbindMore_calls b p fuel s s.t (V := V) (L := L) ⟨hpr, hva, hap⟩ (by omega) he (got := []) (.slice none 0 0) .nil hk (Nat.zero_le _) X hX)
    simp only [ptr0, TermG.av, TermG.cs_eq, o] at c
    simp only [go_sem, Nat.reduceEqDiff, Nat.reduceAdd, Nat.reduceSub, Nat.reduceLT, Nat.reduceMul, Nat.reduceBEq, Nat.reduceLeDiff, ↓reduceIte, Int.reduceToNat, Nat.reduceGT, Int.reduceLE, Int.reduceLT, Int.reduceGE, Int.reduceGT, Int.reduceEq, Int.reduceNe, reduceCtorEq, hds2, o, decide_false, decide_true]
    refine callX_by (c _ hb) ?_
    rintro r hp2 ⟨rfl, s', rfl, hR⟩
    exact ret_same ⟨rfl, s', rfl, hR⟩
  · simp [nodeB, o] at hn
    obtain ⟨a, ha⟩ := someAt s.t.args 0 (by omega)
    have hev : evalG p.ds p.fs s.t e k = .ev a e (.tst s.t e k) := by
      unfold evalG; simp [o, argK', ha]
    rw [hev]
    simp only [go_sem, Nat.reduceEqDiff, Nat.reduceAdd, Nat.reduceSub, Nat.reduceLT, Nat.reduceMul, Nat.reduceBEq, Nat.reduceLeDiff, ↓reduceIte, Int.reduceToNat, Nat.reduceGT, Int.reduceLE, Int.reduceLT, Int.reduceGE, Int.reduceGT, Int.reduceEq, Int.reduceNe, reduceCtorEq, hds2, o, decide_false, decide_true]
    refine draw_by (mu := []) (fun _ => True) (.take 0 (.take 1 (.take 2 (.take 3 (.take 4 (.take 5 (.take 6 (.take 7 (.take 8 (.br 9 (.br 10 (.br 11 (.done) (.stop)) (.stop)) (.stop))))))))))) (by decide +kernel) trivial (by decide +kernel) (by decide +kernel) ?_
    simp only [go_sem, Nat.reduceEqDiff, Nat.reduceAdd, Nat.reduceSub, Nat.reduceLT, Nat.reduceMul, Nat.reduceBEq, Nat.reduceLeDiff, ↓reduceIte, Int.reduceToNat, Nat.reduceGT, Int.reduceLE, Int.reduceLT, Int.reduceGE, Int.reduceGT, Int.reduceEq, Int.reduceNe, reduceCtorEq, hds2, mapAt TermG.av _ _ _ ha, TermG.av, TermG.cs_eq, ((AV.cells.eq_1 _).symm.trans oe.cells), oe.one, ((AV.cells.eq_1 _).symm.trans ok2.cells), ok2.one]
    intro q2
    have hko := QK.emt s.t e k s.ea s.ka q2 o he hk
    simp only [o] at hko
    have c := fun hp hb => reval_calls b p fuel s a s.ea _ oe hko.o hp hb
    simp only [ptr0, TermG.av, TermG.cs_eq] at c
    refine callX_by (c _ hb) ?_
    clear c
    rintro r hp2 ⟨rfl, rfl⟩
    exact ret_same ⟨rfl, _, rfl, rfl, rfl, rfl, rfl, rfl, rfl, ⟨rfl, rfl, he, hko⟩⟩
  · simp [nodeB, o] at hn
    obtain ⟨a, ha⟩ := someAt s.t.args 0 (by omega)
    have hev : evalG p.ds p.fs s.t e k = .ev a (.lab s.t.name k e) k := by
      unfold evalG; simp [o, argK', ha]
    rw [hev]
    simp only [go_sem, Nat.reduceEqDiff, Nat.reduceAdd, Nat.reduceSub, Nat.reduceLT, Nat.reduceMul, Nat.reduceBEq, Nat.reduceLeDiff, ↓reduceIte, Int.reduceToNat, Nat.reduceGT, Int.reduceLE, Int.reduceLT, Int.reduceGE, Int.reduceGT, Int.reduceEq, Int.reduceNe, reduceCtorEq, hds2, o, decide_false, decide_true]
    refine draw_by (mu := []) (fun _ => True) (.take 0 (.take 1 (.take 2 (.take 3 (.take 4 (.take 5 (.take 6 (.take 7 (.take 8 (.take 11 (.br 9 (.br 10 (.br 12 (.done) (.stop)) (.stop)) (.stop)))))))))))) (by decide +kernel) trivial (by decide +kernel) (by decide +kernel) ?_
    simp only [go_sem, Nat.reduceEqDiff, Nat.reduceAdd, Nat.reduceSub, Nat.reduceLT, Nat.reduceMul, Nat.reduceBEq, Nat.reduceLeDiff, ↓reduceIte, Int.reduceToNat, Nat.reduceGT, Int.reduceLE, Int.reduceLT, Int.reduceGE, Int.reduceGT, Int.reduceEq, Int.reduceNe, reduceCtorEq, hds2, mapAt TermG.av _ _ _ ha, TermG.av, TermG.cs_eq, ((AV.cells.eq_1 _).symm.trans oe.cells), oe.one, ((AV.cells.eq_1 _).symm.trans ok2.cells), ok2.one]
    intro q2
    have hle := QE.lab s.t.name k e s.ka s.ea q2 hk he
    simp only [zvC, ztC, List.cons_append, List.nil_append] at hle
    have c := fun hp hb => reval_calls b p fuel s a _ s.ka hle.o ok2 hp hb
    simp only [ptr0, TermG.av, TermG.cs_eq] at c
    refine callX_by (c _ hb) ?_
    clear c
    rintro r hp2 ⟨rfl, rfl⟩
    exact ret_same ⟨rfl, _, rfl, rfl, rfl, rfl, rfl, rfl, rfl, ⟨rfl, rfl, hle, hk⟩⟩
  · simp [nodeB, o] at hn
    obtain ⟨a, ha⟩ := someAt s.t.args 0 (by omega)
    obtain ⟨k', hk'⟩ := hcov.2 s.t.name hn.1.2
    have hev : evalG p.ds p.fs s.t e k = .ev a e k' := by
      unfold evalG; simp [o, argK', ha, hk']
    rw [hev]
    simp only [go_sem, Nat.reduceEqDiff, Nat.reduceAdd, Nat.reduceSub, Nat.reduceLT, Nat.reduceMul, Nat.reduceBEq, Nat.reduceLeDiff, ↓reduceIte, Int.reduceToNat, Nat.reduceGT, Int.reduceLE, Int.reduceLT, Int.reduceGE, Int.reduceGT, Int.reduceEq, Int.reduceNe, reduceCtorEq, hds2, o, decide_false, decide_true]
    refine draw_by (mu := []) (fun _ => True) (.take 0 (.take 1 (.take 2 (.take 3 (.take 4 (.take 5 (.take 6 (.take 7 (.take 8 (.br 9 (.take 10 (.take 11 (.take 12 (.br 13 (.done) (.stop))))) (.stop))))))))))) (by decide +kernel) trivial (by decide +kernel) (by decide +kernel) ?_
    simp only [go_sem, Nat.reduceEqDiff, Nat.reduceAdd, Nat.reduceSub, Nat.reduceLT, Nat.reduceMul, Nat.reduceBEq, Nat.reduceLeDiff, ↓reduceIte, Int.reduceToNat, Nat.reduceGT, Int.reduceLE, Int.reduceLT, Int.reduceGE, Int.reduceGT, Int.reduceEq, Int.reduceNe, reduceCtorEq, hds2, mapAt TermG.av _ _ _ ha, TermG.av, TermG.cs_eq, ((AV.cells.eq_1 _).symm.trans oe.cells), oe.one, ((AV.cells.eq_1 _).symm.trans ok2.cells), ok2.one]
    refine callX_by (rfindL_calls e s.ea he s.t.name _) ?_
    rintro r hp2 ⟨rfl, hf⟩
    obtain ⟨q, a0, a1, a2, a3, a4, a5, a6, a7, a8, a9, a10, a11, a12, a13, l, s', ka', n', hQK, rfl⟩ := hf k' hk'
    have ok3 := hQK.o
    simp only [go_sem, Nat.reduceEqDiff, Nat.reduceAdd, Nat.reduceSub, Nat.reduceLT, Nat.reduceMul, Nat.reduceBEq, Nat.reduceLeDiff, ↓reduceIte, Int.reduceToNat, Nat.reduceGT, Int.reduceLE, Int.reduceLT, Int.reduceGE, Int.reduceGT, Int.reduceEq, Int.reduceNe, reduceCtorEq, hds2, ((AV.cells.eq_1 _).symm.trans oe.cells), oe.one, ((AV.cells.eq_1 _).symm.trans ok2.cells), ok2.one, ((AV.cells.eq_1 _).symm.trans ok3.cells), ok3.one]
    have c := fun hp hb => reval_calls b p fuel s a s.ea ka' oe ok3 hp hb
    simp only [ptr0, TermG.av, TermG.cs_eq] at c
    refine callX_by (c _ hb) ?_
    clear c
    rintro r hp2 ⟨rfl, rfl⟩
    exact ret_same ⟨rfl, _, rfl, rfl, rfl, rfl, rfl, rfl, rfl, ⟨rfl, rfl, he, hQK⟩⟩
end Go.Proofs.YtkoachnlimebaaaGreatDoor
