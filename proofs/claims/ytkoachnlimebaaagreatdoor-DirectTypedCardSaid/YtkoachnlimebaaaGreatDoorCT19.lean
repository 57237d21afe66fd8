/- The layer 'check': typ. -/
import Derived.Test.YtkoachnlimebaaaGreatDoorCT15
import Derived.Test.YtkoachnlimebaaaGreatDoorCAL28
set_option linter.unusedSimpArgs false
set_option linter.unusedVariables false
set_option maxRecDepth 20000
set_option maxHeartbeats 4000000
namespace Go.Proofs.YtkoachnlimebaaaGreatDoor
open Go.AL

theorem blk_set (h : Hp) (b : Nat) (T : TypeId) (cs : List AV) : (h.setBlk b T cs).blk b = some (T, cs) := by simp [Hp.setBlk]
theorem ck_leB (hp : Hp) (cb : Nat) (p : ProgG) (path path' : AV) {f f' : Bool} (l : List (TypeId × Nat × Value)) : (CkHp (hp.setSp l) cb p path' f').le (((CkHp hp cb p path f).setSp l).setBlk cb 232 (ckCs p cb path' f')) := by
  refine ⟨fun b x e => ?_, fun _ _ h => h, List.Sublist.refl _, fun _ h => h⟩
  by_cases hb : b = cb
  · subst hb; simp [CkHp, Hp.setBlk] at e ⊢; exact e
  · simp [CkHp, Hp.setBlk, Hp.setSp, hb] at e ⊢; exact e
section
variable {p : ProgG} {N : Nat} {hp : Hp} {cb : Nat} {path0 : AV} {t : TermG} {l : List EntG} {E K : Bytes → Option Int} {h : Value} {at_ : List Int}
theorem typ_step (pre : RulePre p N t l E K at_) :
    ACalls Tryz.prog 151 [ptr0 cb, envAV l, t.av, intsAV h at_] (CkHp hp cb p path0 false) (TypR p cb hp path0 at_ (typeT p.ds p.fs E K t)) := by
  have hb := ck_blk hp cb p path0 false
  simp only [ckCs, declsAV] at hb
  have hn := valid_node pre.hva
  have hops : t.op = 0 ∨ t.op = 1 ∨ t.op = 2 ∨ t.op = 3 ∨ t.op = 4 ∨ t.op = 5 ∨ t.op = 6 ∨ t.op = 7 ∨ t.op = 8 ∨ t.op = 9 ∨ t.op = 10 ∨ t.op = 11 ∨ t.op = 12 := by
    refine Classical.byContradiction fun hno => ?_
    rw [node_no (by omega) (by omega) (by omega) (by omega) (by omega) (by omega) (by omega) (by omega) (by omega) (by omega) (by omega) (by omega) (by omega)] at hn
    cases hn
  obtain ⟨f, hf, hr⟩ : ∃ f, ([190, 191, 192, 193, 194, 195, 196, 197, 198, 199, 200, 201, 202] : List Nat)[t.op.toNat]? = some f ∧ ACalls Tryz.prog f [ptr0 cb, envAV l, t.av, intsAV h at_] (CkHp hp cb p path0 false) (RulR p cb hp path0 at_ (typeK p.ds p.fs E K t)) := by
    rcases hops with ho | ho | ho | ho | ho | ho | ho | ho | ho | ho | ho | ho | ho
    · exact ⟨_, by rw [ho]; rfl, name_rule pre ho⟩
    · exact ⟨_, by rw [ho]; rfl, number_rule pre ho⟩
    · exact ⟨_, by rw [ho]; rfl, prim_rule pre ho⟩
    · exact ⟨_, by rw [ho]; rfl, ifz_rule pre ho⟩
    · exact ⟨_, by rw [ho]; rfl, con_rule pre ho⟩
    · exact ⟨_, by rw [ho]; rfl, cases_rule pre ho⟩
    · exact ⟨_, by rw [ho]; rfl, dtor_rule pre ho⟩
    · exact ⟨_, by rw [ho]; rfl, cocase_rule pre ho⟩
    · exact ⟨_, by rw [ho]; rfl, let_rule pre ho⟩
    · exact ⟨_, by rw [ho]; rfl, call_rule pre ho⟩
    · exact ⟨_, by rw [ho]; rfl, emit_rule pre ho⟩
    · exact ⟨_, by rw [ho]; rfl, mark_rule pre ho⟩
    · exact ⟨_, by rw [ho]; rfl, jump_rule pre ho⟩
  have hl30 : at_.length ≤ 30 := by have := pre.hat; omega
  have hat := pre.hat
  rw [typeT_K]
  refine acalls_of Tryz.func151 rfl (by decide +kernel) (awp_sound (mu := [40, 42]) _ _ _ ?_)
  simp only [go_sem, Nat.reduceEqDiff, Nat.reduceAdd, Nat.reduceSub, Nat.reduceLT, Nat.reduceMul, Nat.reduceBEq, Nat.reduceLeDiff, ↓reduceIte, Int.reduceToNat, Nat.reduceGT, Int.reduceLE, Int.reduceLT, Int.reduceGE, Int.reduceGT, Int.reduceEq, Int.reduceNe, reduceCtorEq, TermG.av, TermG.cs_eq, ptr0]
  intro q1
  refine draw_by (mu := [40, 42]) (fun h => ∃ pa f, h.blk cb = some (232, ckCs p cb pa f)) (.take 0 (.take 1 (.take 2 (.take 3 (.take 4 (.take 5 (.take 7 (.take 8 (.take 9 (.br 6 (.br 10 (.take 11 (.take 12 (.take 13 (.take 14 (.take 15 (.done)))))) (.stop)) (.stop))))))))))) (by decide +kernel) ⟨path0, false, ck_blk ..⟩ (by decide +kernel) (by decide +kernel) ?_
  simp only [TermG.av, TermG.cs_eq] at hr
  rcases hops with ho | ho | ho | ho | ho | ho | ho | ho | ho | ho | ho | ho | ho
  all_goals
    rw [ho] at hf hr
    obtain rfl := Option.some.inj hf
    simp only [go_sem, Nat.reduceEqDiff, Nat.reduceAdd, Nat.reduceSub, Nat.reduceLT, Nat.reduceMul, Nat.reduceBEq, Nat.reduceLeDiff, ↓reduceIte, Int.reduceToNat, Nat.reduceGT, Int.reduceLE, Int.reduceLT, Int.reduceGE, Int.reduceGT, Int.reduceEq, Int.reduceNe, reduceCtorEq, hb, ho]
    refine ⟨⟨path0, false, by simp only [ckCs, declsAV]⟩, ?_⟩
    refine callX_by hr ?_
    clear hr
    rintro r hp1 hR
    cases e : typeK p.ds p.fs E K t with
    | good n =>
      rw [e] at hR
      obtain ⟨rfl, rfl⟩ := hR
      refine ⟨⟨path0, false, ck_blk ..⟩, ?_⟩
      simp only [go_sem, Nat.reduceEqDiff, Nat.reduceAdd, Nat.reduceSub, Nat.reduceLT, Nat.reduceMul, Nat.reduceBEq, Nat.reduceLeDiff, ↓reduceIte, Int.reduceToNat, Nat.reduceGT, Int.reduceLE, Int.reduceLT, Int.reduceGE, Int.reduceGT, Int.reduceEq, Int.reduceNe, reduceCtorEq, hb]
      refine draw_by (mu := [40, 42]) (fun h => ∃ pa, h.blk cb = some (232, ckCs p cb pa false)) (.take 0 (.take 1 (.take 2 (.take 3 (.take 4 (.take 5 (.take 6 (.take 7 (.take 8 (.take 9 (.take 10 (.done)))))))))))) (by decide +kernel) ⟨path0, ck_blk ..⟩ (by decide +kernel) (by decide +kernel) ?_
      simp only [go_sem, Nat.reduceEqDiff, Nat.reduceAdd, Nat.reduceSub, Nat.reduceLT, Nat.reduceMul, Nat.reduceBEq, Nat.reduceLeDiff, ↓reduceIte, Int.reduceToNat, Nat.reduceGT, Int.reduceLE, Int.reduceLT, Int.reduceGE, Int.reduceGT, Int.reduceEq, Int.reduceNe, reduceCtorEq, hb]
      refine ⟨fun h e => by obtain ⟨pa, e⟩ := e; rw [e]; simp only [go_sem, Nat.reduceEqDiff, Nat.reduceAdd, Nat.reduceSub, Nat.reduceLT, Nat.reduceMul, Nat.reduceBEq, Nat.reduceLeDiff, ↓reduceIte, Int.reduceToNat, Nat.reduceGT, Int.reduceLE, Int.reduceLT, Int.reduceGE, Int.reduceGT, Int.reduceEq, Int.reduceNe, reduceCtorEq, ckCs, declsAV], ?_⟩
      exact ret_same ⟨rfl, rfl⟩
    | bad =>
      rw [e] at hR
      obtain ⟨n, rfl, rfl⟩ := hR
      refine ⟨⟨path0, false, ck_blk ..⟩, ?_⟩
      simp only [go_sem, Nat.reduceEqDiff, Nat.reduceAdd, Nat.reduceSub, Nat.reduceLT, Nat.reduceMul, Nat.reduceBEq, Nat.reduceLeDiff, ↓reduceIte, Int.reduceToNat, Nat.reduceGT, Int.reduceLE, Int.reduceLT, Int.reduceGE, Int.reduceGT, Int.reduceEq, Int.reduceNe, reduceCtorEq, hb]
      refine callX_by (cloneI_calls h at_ (by omega) _) ?_
      rintro r hp1 ⟨h20, rfl, rfl⟩
      simp only [go_sem, Nat.reduceEqDiff, Nat.reduceAdd, Nat.reduceSub, Nat.reduceLT, Nat.reduceMul, Nat.reduceBEq, Nat.reduceLeDiff, ↓reduceIte, Int.reduceToNat, Nat.reduceGT, Int.reduceLE, Int.reduceLT, Int.reduceGE, Int.reduceGT, Int.reduceEq, Int.reduceNe, reduceCtorEq, hb, intsAV]
      refine draw_by (mu := [40, 42]) (fun h => ∃ pa, h.blk cb = some (232, ckCs p cb pa true)) (.take 0 (.take 1 (.take 2 (.take 3 (.take 4 (.take 5 (.take 6 (.take 7 (.take 8 (.take 9 (.take 10 (.done)))))))))))) (by decide +kernel) ⟨intsAV h20 at_, blk_set _ _ _ _⟩ (by decide +kernel) (by decide +kernel) ?_
      simp only [go_sem, Nat.reduceEqDiff, Nat.reduceAdd, Nat.reduceSub, Nat.reduceLT, Nat.reduceMul, Nat.reduceBEq, Nat.reduceLeDiff, ↓reduceIte, Int.reduceToNat, Nat.reduceGT, Int.reduceLE, Int.reduceLT, Int.reduceGE, Int.reduceGT, Int.reduceEq, Int.reduceNe, reduceCtorEq, hb]
      refine ret_le (ck_leB hp cb p path0 (intsAV h20 at_) ((3, 1, h20) :: hp.sp)) ⟨n, h20, rfl, by rw [List.append_nil]⟩
    | deep q =>
      rw [e] at hR
      obtain ⟨n, hq, rfl, rfl⟩ := hR
      have hb := ck_blk (hp.setSp ((3, 1, hq) :: hp.sp)) cb p (intsAV hq (at_ ++ q)) true
      simp only [ckCs, declsAV] at hb
      refine ⟨⟨_, true, ck_blk ..⟩, ?_⟩
      simp only [go_sem, Nat.reduceEqDiff, Nat.reduceAdd, Nat.reduceSub, Nat.reduceLT, Nat.reduceMul, Nat.reduceBEq, Nat.reduceLeDiff, ↓reduceIte, Int.reduceToNat, Nat.reduceGT, Int.reduceLE, Int.reduceLT, Int.reduceGE, Int.reduceGT, Int.reduceEq, Int.reduceNe, reduceCtorEq, hb]
      refine draw_by (mu := [40, 42]) (fun h => ∃ pa, h.blk cb = some (232, ckCs p cb pa true)) (.take 0 (.take 1 (.take 2 (.take 3 (.take 4 (.take 5 (.take 6 (.take 7 (.take 8 (.take 9 (.take 10 (.done)))))))))))) (by decide +kernel) ⟨_, ck_blk ..⟩ (by decide +kernel) (by decide +kernel) ?_
      simp only [go_sem, Nat.reduceEqDiff, Nat.reduceAdd, Nat.reduceSub, Nat.reduceLT, Nat.reduceMul, Nat.reduceBEq, Nat.reduceLeDiff, ↓reduceIte, Int.reduceToNat, Nat.reduceGT, Int.reduceLE, Int.reduceLT, Int.reduceGE, Int.reduceGT, Int.reduceEq, Int.reduceNe, reduceCtorEq, hb]
      exact ret_same ⟨n, hq, rfl, rfl⟩
end
end Go.Proofs.YtkoachnlimebaaaGreatDoor
/- The layer 'check': typ of all terms; what valid programs give. -/
set_option linter.unusedSimpArgs false
set_option linter.unusedVariables false
set_option maxRecDepth 20000
set_option maxHeartbeats 4000000
namespace Go.Proofs.YtkoachnlimebaaaGreatDoor
open Go.AL

theorem nodes_arg {t a : TermG} (ha : a ∈ t.args) : nodesT a < nodesT t := by
  have go : ∀ (l : List TermG) (a : TermG), a ∈ l → nodesT a ≤ nodesA l := by
    intro l
    induction l with
    | nil => intro a ha; cases ha
    | cons b r ih =>
      intro a ha
      rw [nodesA_cons]
      rcases List.mem_cons.1 ha with rfl | ha
      · omega
      · have := ih a ha; omega
  have := go _ a ha
  rw [nodesT_eq t]; omega
theorem nodes_cls {t : TermG} {c : ClauseG} (hc : c ∈ t.cls) : nodesT c.body < nodesT t := by
  have go : ∀ (l : List ClauseG) (c : ClauseG), c ∈ l → nodesT c.body ≤ nodesC l := by
    intro l
    induction l with
    | nil => intro a ha; cases ha
    | cons b r ih =>
      intro a ha
      rw [show nodesC (b :: r) = nodesT b.body + nodesC r from by rw [nodesC, nodesB_eq]]
      rcases List.mem_cons.1 ha with rfl | ha
      · omega
      · have := ih a ha; omega
  have := go _ c hc
  rw [nodesT_eq t]; omega
/-- What the checker may rely on of a program. -/
structure ProgOk (p : ProgG) : Prop where
  hsm : SmallX p.ds
  hdl : p.ds.length ≤ 8
  hend : EndX p.ds
  hfp : ∀ f ∈ p.fs, f.params.length ≤ 6
  hx1 : ∀ d ∈ p.ds, d.xtors ≠ []
theorem typ_all {p : ProgG} (ok : ProgOk p) : ∀ N, TypC p N
  | 0 => fun t hN => by have := nodesT_eq t; omega
  | N + 1 => fun t hN hp cb l E K h at_ path0 he hva hat =>
    typ_step ⟨typ_all ok N, fun a ha => by have := nodes_arg ha; omega, fun c hc => by have := nodes_cls hc; omega, he, hva, hat, ok.hsm, ok.hdl, ok.hend, ok.hfp, ok.hx1⟩
theorem ctyp_calls {p : ProgG} (ok : ProgOk p) (t : TermG) (hp : Hp) (cb : Nat) {l : List EntG} {E K : Bytes → Option Int} (he : EnvOk l E K) (hva : validT p.ds p.pf (domB E) (domB K) t = true) (hd : depthT t ≤ 30) (path0 : AV) :
    ACalls Tryz.prog 151 [ptr0 cb, envAV l, t.av, .v (.slice none 0 0)] (CkHp hp cb p path0 false) (TypR p cb hp path0 [] (typeT p.ds p.fs E K t)) := by
  have c := typ_all ok (nodesT t) t (Nat.le_refl _) hp cb l E K (.slice none 0 0) [] path0 he hva (by simpa using hd)
  exact acalls_cast (args := [ptr0 cb, envAV l, t.av, intsAV (.slice none 0 0) []]) rfl (fun m h => ⟨h.1, h.2.1, h.2.2.1, (Cast.nil 1).2 m trivial, trivial⟩) c
theorem decl_xs (n : Nat) : ∀ (l : List DeclG) (names seen : List Bytes), validFrom n names seen l = true → ∀ d ∈ l, d.xtors ≠ []
  | [], _, _, _ => fun d hd => by cases hd
  | d :: r, names, seen, h => by
    rw [validFrom, Bool.and_eq_true] at h
    have h0 : d.xtors ≠ [] := by
      intro e
      have := h.1
      simp [declB, e] at this
    cases hf : fitsAll n seen d.xtors with
    | none => rw [hf] at h; cases h.2
    | some s =>
      rw [hf] at h
      intro e he
      rcases List.mem_cons.1 he with rfl | he
      · exact h0
      · exact decl_xs n r _ _ h.2 e he
theorem heads_mem (ds : List DeclG) : ∀ (i : Nat) (l : List FunG), headsB ds i l = true → ∀ f ∈ l, f.params.length ≤ 6
  | _, [], _ => fun f hf => by cases hf
  | i, g :: r, h => by
    rw [headsB, Bool.and_eq_true] at h
    intro f hf
    rcases List.mem_cons.1 hf with rfl | hf
    · have := h.1
      simp only [headX, Bool.and_eq_true, Bool.not_eq_true', decide_eq_false_iff_not] at this
      have := this.2.1; omega
    · exact heads_mem ds (i + 1) r h.2 f hf
theorem bodies_mem (ds : List DeclG) (pf : List Nat) : ∀ (left : Int) (l : List FunG), left ≤ 600 → bodiesB ds pf left l = true → ∀ f ∈ l, nodesT f.body ≤ 600 ∧ depthT f.body ≤ 24 ∧ validT ds pf (hasB (f.params.map ParamG.name)) (fun _ => false) f.body = true
  | _, [], _, _ => fun f hf => by cases hf
  | left, g :: r, hl, h => by
    rw [bodiesB, Bool.and_eq_true] at h
    intro f hf
    rcases List.mem_cons.1 hf with rfl | hf
    · have := h.1
      simp only [okB, Bool.and_eq_true, decide_eq_true_eq] at this
      exact ⟨by omega, by omega, this.2.2⟩
    · exact bodies_mem ds pf _ r (by omega) h.2 f hf
theorem prog_ok {p : ProgG} (h : progB p = true) : ProgOk p := by
  simp only [progB, Bool.and_eq_true] at h
  have hv := h.1.1
  rw [validB, Bool.and_eq_true, Bool.not_eq_true', decide_eq_false_iff_not] at hv
  refine ⟨small_valid h.1.1, by omega, fun d hd hco x hx e => ?_, heads_mem _ _ _ h.2.2.2.1, decl_xs _ _ _ _ hv.2⟩
  have := h.1.2
  simp only [sourceB, List.all_eq_true] at this
  have := this d hd x hx
  rw [hco] at this
  simp [sourceX, resultG, e, resOk] at this
theorem prog_body {p : ProgG} (h : progB p = true) : ∀ f ∈ p.fs, nodesT f.body ≤ 600 ∧ depthT f.body ≤ 24 ∧ validT p.ds p.pf (hasB (f.params.map ParamG.name)) (fun _ => false) f.body = true := by
  simp only [progB, Bool.and_eq_true] at h
  exact bodies_mem _ _ _ _ (Int.le_refl _) h.2.2.2.2.2
end Go.Proofs.YtkoachnlimebaaaGreatDoor
/- The layer 'check': params, fault, Typed, Check, Fault. -/
set_option linter.unusedSimpArgs false
set_option linter.unusedVariables false
set_option maxRecDepth 20000
set_option maxHeartbeats 4000000
namespace Go.Proofs.YtkoachnlimebaaaGreatDoor
open Go.AL

def envP (l : List ParamG) : Bytes → Option Int := bindE (fun _ => none) (l.map ParamG.name) (l.map ParamG.ty)
theorem bindE_nil (E : Bytes → Option Int) (l : List Int) : bindE E [] l = E := by rw [bindE]; intro s r t q h; cases h
theorem params_calls (h : Value) (l : List ParamG) (hp : Hp) : ACalls Tryz.prog 152 [paramsAV h l] hp (fun r hp' => ∃ e, r = envAV e ∧ EnvOk e (envP l) (fun _ => none) ∧ hp' = hp) := by
  refine acalls_fit (callable_of Tryz.func152 (by decide +kernel)) fun hfit => ?_
  have hlm : l.length ≤ maxLen := fit_lst hfit.1
  clear hfit
  refine acalls_of Tryz.func152 rfl (by decide +kernel) (awp_sound (mu := []) _ _ _ ?_)
  simp only [go_sem, Nat.reduceEqDiff, Nat.reduceAdd, Nat.reduceSub, Nat.reduceLT, Nat.reduceMul, Nat.reduceBEq, Nat.reduceLeDiff, ↓reduceIte, Int.reduceToNat, Nat.reduceGT, Int.reduceLE, Int.reduceLT, Int.reduceGE, Int.reduceGT, Int.reduceEq, Int.reduceNe, reduceCtorEq, paramsAV]
  refine aw_loopX 20 (fun x : Nat × List EntG => [(3, envAV x.2), (6, .lst 2 h (l.map ParamG.av)), (7, .v (.int .i64 l.length)), (8, .v (.int .i64 x.1))])
    (fun _ => hp) (fun x => x.1 ≤ l.length ∧ ∃ E', EnvOk x.2 E' (fun _ => none) ∧ bindE E' ((l.drop x.1).map ParamG.name) ((l.drop x.1).map ParamG.ty) = envP l) (fun x => l.length - x.1) (0, [])
    ⟨Nat.zero_le _, _, env_nil, rfl⟩ (le_mkSl rfl (Hp.le_refl _) (by simp [go_sem, envAV])) ?_
  rintro ⟨k, e⟩ ⟨hk, E', he, hb⟩
  simp only at hk he hb
  refine awp_sound (mu := []) _ _ _ ?_
  simp only [go_sem, Nat.reduceEqDiff, Nat.reduceAdd, Nat.reduceSub, Nat.reduceLT, Nat.reduceMul, Nat.reduceBEq, Nat.reduceLeDiff, ↓reduceIte, Int.reduceToNat, Nat.reduceGT, Int.reduceLE, Int.reduceLT, Int.reduceGE, Int.reduceGT, Int.reduceEq, Int.reduceNe, reduceCtorEq]
  refine brK_mk (fun b1 => ?_) (fun b1 => ?_) <;> simp only [go_sem, Nat.reduceEqDiff, Nat.reduceAdd, Nat.reduceSub, Nat.reduceLT, Nat.reduceMul, Nat.reduceBEq, Nat.reduceLeDiff, ↓reduceIte, Int.reduceToNat, Nat.reduceGT, Int.reduceLE, Int.reduceLT, Int.reduceGE, Int.reduceGT, Int.reduceEq, Int.reduceNe, reduceCtorEq, b1]
  · have hk' : k < l.length := by simpa using b1
    obtain ⟨x, hx⟩ := someAt l k hk'
    have hwu := upK k _ hk' hlm
    rw [dropK hx, List.map_cons, List.map_cons, bindE] at hb
    simp only [go_sem, Nat.reduceEqDiff, Nat.reduceAdd, Nat.reduceSub, Nat.reduceLT, Nat.reduceMul, Nat.reduceBEq, Nat.reduceLeDiff, ↓reduceIte, Int.reduceToNat, Nat.reduceGT, Int.reduceLE, Int.reduceLT, Int.reduceGE, Int.reduceGT, Int.reduceEq, Int.reduceNe, reduceCtorEq, mapAt ParamG.av _ _ _ hx, ParamG.av, ParamG.cs]
    intro v hv
    have hds := fun T cs => Hp.del_set _ _ T cs hv.1
    simp only [go_sem, Nat.reduceEqDiff, Nat.reduceAdd, Nat.reduceSub, Nat.reduceLT, Nat.reduceMul, Nat.reduceBEq, Nat.reduceLeDiff, ↓reduceIte, Int.reduceToNat, Nat.reduceGT, Int.reduceLE, Int.reduceLT, Int.reduceGE, Int.reduceGT, Int.reduceEq, Int.reduceNe, reduceCtorEq, hds]
    refine callX_by (bind_calls e x.name x.ty false _) ?_
    rintro r hp1 ⟨⟨q, rfl⟩, rfl⟩
    simp only [go_sem, Nat.reduceEqDiff, Nat.reduceAdd, Nat.reduceSub, Nat.reduceLT, Nat.reduceMul, Nat.reduceBEq, Nat.reduceLeDiff, ↓reduceIte, Int.reduceToNat, Nat.reduceGT, Int.reduceLE, Int.reduceLT, Int.reduceGE, Int.reduceGT, Int.reduceEq, Int.reduceNe, reduceCtorEq, hwu]
    exact ⟨(k + 1, ⟨q, x.name, x.ty, false⟩ :: e), by simp only; omega, ⟨by simp only; omega, setE E' x.name x.ty, env_var he q x.name x.ty, hb⟩, le_mkSl rfl (Hp.le_refl _) (by simp [go_sem, hwu])⟩
  · have e1 : k = l.length := by simp at b1; omega
    subst e1
    rw [List.drop_of_length_le (Nat.le_refl _), List.map_nil, List.map_nil, bindE_nil] at hb
    exact ret_same ⟨e, rfl, hb ▸ he, rfl⟩
def FaultR (p : ProgG) (hp : Hp) (r : AV) (hp' : Hp) : Prop :=
  match faultF p.ds p.fs 0 p.fs with
  | some (i, q) => ∃ h, r = .tup [.v (.int .i64 i), intsAV h q, .v (.bool true)] ∧ hp' = hp.setSp ((3, 1, h) :: hp.sp)
  | none => r = .tup [.v (.int .i64 0), .v (.slice none 0 0), .v (.bool false)] ∧ hp' = hp
theorem dom_none : domB (fun _ => none) = fun _ => false := rfl
theorem dom_params (l : List ParamG) : domB (envP l) = hasB (l.map ParamG.name) := by
  rw [envP, dom_bind _ _ _ (by simp), dom_none]
  funext x; simp [addL]
theorem ck_new (hp : Hp) (cb : Nat) (p : ProgG) (pa : AV) (fo : Bool) (h : hp.blk cb = none) : hp.le (CkHp hp cb p pa fo) := by
  refine ⟨fun b x e => ?_, fun _ _ h => h, List.Sublist.refl _, fun _ h => h⟩
  have hb : b ≠ cb := by rintro rfl; rw [h] at e; cases e
  simpa [CkHp, Hp.setBlk, hb] using e
theorem fault_calls {p : ProgG} (hv : progB p = true) (hp : Hp) : ACalls Tryz.prog 96 [p.av] hp (FaultR p hp) := by
  have ok := prog_ok hv
  have hbd := prog_body hv
  refine acalls_fit (callable_of Tryz.func96 (by decide +kernel)) fun hfit => ?_
  have hlm : p.fs.length ≤ maxLen := by
    have h := hfit.1
    simp only [ProgG.av, ProgG.cs, AV.fit, AV.fits, declsAV, funsAV] at h
    exact fit_lst (f := FunG.av) (sz := 9) (h := p.hf) (l := p.fs) (by simpa [AV.fit] using h.2.1)
  clear hfit
  refine acalls_of Tryz.func96 rfl (by decide +kernel) (awp_sound (mu := []) _ _ _ ?_)
  simp only [go_sem, Nat.reduceEqDiff, Nat.reduceAdd, Nat.reduceSub, Nat.reduceLT, Nat.reduceMul, Nat.reduceBEq, Nat.reduceLeDiff, ↓reduceIte, Int.reduceToNat, Nat.reduceGT, Int.reduceLE, Int.reduceLT, Int.reduceGE, Int.reduceGT, Int.reduceEq, Int.reduceNe, reduceCtorEq, ProgG.av, ProgG.cs, declsAV, funsAV]
  intro q1
  refine aw_loopX 43 (fun k : Nat => [(1, .ref q1 [.lst 3 p.hd (p.ds.map DeclG.av), .lst 9 p.hf (p.fs.map FunG.av)]), (11, .lst 9 p.hf (p.fs.map FunG.av)), (12, .v (.int .i64 p.fs.length)), (13, .v (.int .i64 k))])
    (fun _ => hp) (fun k => k ≤ p.fs.length ∧ faultF p.ds p.fs 0 p.fs = faultF p.ds p.fs k (p.fs.drop k)) (fun k => p.fs.length - k) 0
    ⟨Nat.zero_le _, rfl⟩ (le_mkSl rfl (Hp.le_refl _) (by simp [go_sem])) ?_
  rintro k ⟨hk, hf⟩
  refine awp_sound (mu := []) _ _ _ ?_
  simp only [go_sem, Nat.reduceEqDiff, Nat.reduceAdd, Nat.reduceSub, Nat.reduceLT, Nat.reduceMul, Nat.reduceBEq, Nat.reduceLeDiff, ↓reduceIte, Int.reduceToNat, Nat.reduceGT, Int.reduceLE, Int.reduceLT, Int.reduceGE, Int.reduceGT, Int.reduceEq, Int.reduceNe, reduceCtorEq]
  refine brK_mk (fun b1 => ?_) (fun b1 => ?_) <;> simp only [go_sem, Nat.reduceEqDiff, Nat.reduceAdd, Nat.reduceSub, Nat.reduceLT, Nat.reduceMul, Nat.reduceBEq, Nat.reduceLeDiff, ↓reduceIte, Int.reduceToNat, Nat.reduceGT, Int.reduceLE, Int.reduceLT, Int.reduceGE, Int.reduceGT, Int.reduceEq, Int.reduceNe, reduceCtorEq, b1]
  · have hk' : k < p.fs.length := by simpa using b1
    obtain ⟨f, hx⟩ := someAt p.fs k hk'
    have hmem := List.mem_of_getElem? hx
    have hwu := upK k _ hk' hlm
    obtain ⟨hn1, hd1, hv1⟩ := hbd f hmem
    rw [dropK hx, faultF, show bindE (fun _ => none) (f.params.map ParamG.name) (f.params.map ParamG.ty) = envP f.params from rfl] at hf
    simp only [go_sem, Nat.reduceEqDiff, Nat.reduceAdd, Nat.reduceSub, Nat.reduceLT, Nat.reduceMul, Nat.reduceBEq, Nat.reduceLeDiff, ↓reduceIte, Int.reduceToNat, Nat.reduceGT, Int.reduceLE, Int.reduceLT, Int.reduceGE, Int.reduceGT, Int.reduceEq, Int.reduceNe, reduceCtorEq, mapAt FunG.av _ _ _ hx, FunG.av, FunG.cs, paramsAV]
    intro v hv
    have hds := fun T cs => Hp.del_set _ _ T cs hv.1
    simp only [go_sem, Nat.reduceEqDiff, Nat.reduceAdd, Nat.reduceSub, Nat.reduceLT, Nat.reduceMul, Nat.reduceBEq, Nat.reduceLeDiff, ↓reduceIte, Int.reduceToNat, Nat.reduceGT, Int.reduceLE, Int.reduceLT, Int.reduceGE, Int.reduceGT, Int.reduceEq, Int.reduceNe, reduceCtorEq, hds]
    have c := newChecker_calls p hp
    simp only [ProgG.av, ProgG.cs, declsAV, funsAV] at c
    refine callX_by c ?_
    clear c
    rintro r hp1 ⟨cb, rfl, hcb, rfl⟩
    simp only [go_sem, Nat.reduceEqDiff, Nat.reduceAdd, Nat.reduceSub, Nat.reduceLT, Nat.reduceMul, Nat.reduceBEq, Nat.reduceLeDiff, ↓reduceIte, Int.reduceToNat, Nat.reduceGT, Int.reduceLE, Int.reduceLT, Int.reduceGE, Int.reduceGT, Int.reduceEq, Int.reduceNe, reduceCtorEq, ptr0]
    refine draw_by (mu := []) (fun _ => True) (.take 0 (.take 1 (.take 2 (.take 4 (.take 5 (.br 3 (.br 6 (.take 7 (.take 8 (.take 9 (.take 10 (.take 11 (.done)))))) (.stop)) (.stop))))))) (by decide +kernel) trivial (by decide +kernel) (by decide +kernel) ?_
    simp only [go_sem, Nat.reduceEqDiff, Nat.reduceAdd, Nat.reduceSub, Nat.reduceLT, Nat.reduceMul, Nat.reduceBEq, Nat.reduceLeDiff, ↓reduceIte, Int.reduceToNat, Nat.reduceGT, Int.reduceLE, Int.reduceLT, Int.reduceGE, Int.reduceGT, Int.reduceEq, Int.reduceNe, reduceCtorEq]
    have c := params_calls f.hp f.params (CkHp hp cb p (.v (.slice none 0 0)) false)
    simp only [paramsAV] at c
    refine callX_by c ?_
    clear c
    rintro r hp1 ⟨e, rfl, he, rfl⟩
    simp only [go_sem, Nat.reduceEqDiff, Nat.reduceAdd, Nat.reduceSub, Nat.reduceLT, Nat.reduceMul, Nat.reduceBEq, Nat.reduceLeDiff, ↓reduceIte, Int.reduceToNat, Nat.reduceGT, Int.reduceLE, Int.reduceLT, Int.reduceGE, Int.reduceGT, Int.reduceEq, Int.reduceNe, reduceCtorEq]
    have c := ctyp_calls ok f.body hp cb he (by rw [dom_params, dom_none]; exact hv1) (by omega) (.v (.slice none 0 0))
    simp only [TermG.av, TermG.cs_eq, ptr0] at c
    refine callX_by c ?_
    clear c
    rintro r hp1 hR
    have hle : ∀ pa fo, hp.le (CkHp hp cb p pa fo) := fun pa fo => ck_new hp cb p pa fo hcb
    cases e : typeT p.ds p.fs (envP f.params) (fun _ => none) f.body with
    | error q =>
      rw [e] at hR hf
      obtain ⟨n, h, rfl, rfl⟩ := hR
      simp only at hf
      have hb := ck_blk (hp.setSp ((3, 1, h) :: hp.sp)) cb p (intsAV h q) true
      simp only [ckCs, declsAV] at hb
      simp only [go_sem, Nat.reduceEqDiff, Nat.reduceAdd, Nat.reduceSub, Nat.reduceLT, Nat.reduceMul, Nat.reduceBEq, Nat.reduceLeDiff, ↓reduceIte, Int.reduceToNat, Nat.reduceGT, Int.reduceLE, Int.reduceLT, Int.reduceGE, Int.reduceGT, Int.reduceEq, Int.reduceNe, reduceCtorEq, hb]
      refine draw_by (mu := []) (fun h' => h'.blk cb = (CkHp (hp.setSp ((3, 1, h) :: hp.sp)) cb p (intsAV h q) true).blk cb) (.take 0 (.take 1 (.take 2 (.take 3 (.take 4 (.take 5 (.take 6 (.take 7 (.done))))))))) (by decide +kernel) rfl (by decide +kernel) (by decide +kernel) ?_
      simp only [go_sem, Nat.reduceEqDiff, Nat.reduceAdd, Nat.reduceSub, Nat.reduceLT, Nat.reduceMul, Nat.reduceBEq, Nat.reduceLeDiff, ↓reduceIte, Int.reduceToNat, Nat.reduceGT, Int.reduceLE, Int.reduceLT, Int.reduceGE, Int.reduceGT, Int.reduceEq, Int.reduceNe, reduceCtorEq, hb]
      refine ⟨fun h' e => by rw [e]; simp only [go_sem, Nat.reduceEqDiff, Nat.reduceAdd, Nat.reduceSub, Nat.reduceLT, Nat.reduceMul, Nat.reduceBEq, Nat.reduceLeDiff, ↓reduceIte, Int.reduceToNat, Nat.reduceGT, Int.reduceLE, Int.reduceLT, Int.reduceGE, Int.reduceGT, Int.reduceEq, Int.reduceNe, reduceCtorEq], ?_⟩
      exact ret_le (ck_new (hp.setSp ((3, 1, h) :: hp.sp)) cb p _ _ hcb) (by rw [FaultR, hf]; exact ⟨h, rfl, rfl⟩)
    | ok n =>
      rw [e] at hR hf
      obtain ⟨rfl, rfl⟩ := hR
      simp only at hf
      simp only [go_sem, Nat.reduceEqDiff, Nat.reduceAdd, Nat.reduceSub, Nat.reduceLT, Nat.reduceMul, Nat.reduceBEq, Nat.reduceLeDiff, ↓reduceIte, Int.reduceToNat, Nat.reduceGT, Int.reduceLE, Int.reduceLT, Int.reduceGE, Int.reduceGT, Int.reduceEq, Int.reduceNe, reduceCtorEq]
      refine brK_mk (fun b2 => ?_) (fun b2 => ?_) <;> simp only [go_sem, Nat.reduceEqDiff, Nat.reduceAdd, Nat.reduceSub, Nat.reduceLT, Nat.reduceMul, Nat.reduceBEq, Nat.reduceLeDiff, ↓reduceIte, Int.reduceToNat, Nat.reduceGT, Int.reduceLE, Int.reduceLT, Int.reduceGE, Int.reduceGT, Int.reduceEq, Int.reduceNe, reduceCtorEq, b2, hwu]
      · rw [if_pos (by simpa using b2)] at hf
        exact ⟨k + 1, by omega, ⟨by omega, hf⟩, le_mkSl rfl (hle _ _) (by simp [go_sem, hwu])⟩
      · rw [if_neg (by simpa using b2)] at hf
        refine ⟨hp.setSp ((3, 1, .slice none 0 0) :: hp.sp), .tup [.v (.int .i64 k), intsAV (.slice none 0 0) [], .v (.bool true)], ?_, by rw [FaultR, hf]; exact ⟨_, rfl, rfl⟩⟩
        have g : Cast (.tup [.v (.int .i64 k), .v (.slice none 0 0), .v (.bool true)]) (.tup [.v (.int .i64 k), intsAV (.slice none 0 0) [], .v (.bool true)]) := ⟨rfl, fun m h => ⟨h.1, (Cast.nil 1).2 m trivial, h.2.2.1, trivial⟩⟩
        exact Gives.trans (Gives.cast g) (Gives.trans (Gives.le (hle _ _)) (Gives.addNil hp _ 3 1))
  · have e1 : k = p.fs.length := by simp at b1; omega
    subst e1
    rw [List.drop_of_length_le (Nat.le_refl _), faultF] at hf
    exact ret_same (by rw [FaultR, hf]; exact ⟨rfl, rfl⟩)
def typedB (p : ProgG) : Bool := (faultF p.ds p.fs 0 p.fs).isNone
theorem typed_calls {p : ProgG} (hv : progB p = true) (hp : Hp) : ACalls Tryz.prog 49 [p.av] hp (fun r hp' => r = .v (.bool (typedB p)) ∧ hp' = hp) := by
  refine acalls_of Tryz.func49 rfl (by decide +kernel) (awp_sound (mu := []) _ _ _ ?_)
  simp only [go_sem, Nat.reduceEqDiff, Nat.reduceAdd, Nat.reduceSub, Nat.reduceLT, Nat.reduceMul, Nat.reduceBEq, Nat.reduceLeDiff, ↓reduceIte, Int.reduceToNat, Nat.reduceGT, Int.reduceLE, Int.reduceLT, Int.reduceGE, Int.reduceGT, Int.reduceEq, Int.reduceNe, reduceCtorEq, ProgG.av, ProgG.cs]
  intro q1
  have c := fault_calls hv hp
  simp only [ProgG.av, ProgG.cs] at c
  refine callX_by c ?_
  clear c
  intro r hp1 hR
  rw [FaultR] at hR
  cases e : faultF p.ds p.fs 0 p.fs with
  | none =>
    rw [e] at hR
    obtain ⟨rfl, rfl⟩ := hR
    simp only [go_sem, Nat.reduceEqDiff, Nat.reduceAdd, Nat.reduceSub, Nat.reduceLT, Nat.reduceMul, Nat.reduceBEq, Nat.reduceLeDiff, ↓reduceIte, Int.reduceToNat, Nat.reduceGT, Int.reduceLE, Int.reduceLT, Int.reduceGE, Int.reduceGT, Int.reduceEq, Int.reduceNe, reduceCtorEq]
    exact ret_same ⟨by rw [typedB, e]; rfl, rfl⟩
  | some x =>
    rw [e] at hR
    obtain ⟨h, rfl, rfl⟩ := hR
    simp only [go_sem, Nat.reduceEqDiff, Nat.reduceAdd, Nat.reduceSub, Nat.reduceLT, Nat.reduceMul, Nat.reduceBEq, Nat.reduceLeDiff, ↓reduceIte, Int.reduceToNat, Nat.reduceGT, Int.reduceLE, Int.reduceLT, Int.reduceGE, Int.reduceGT, Int.reduceEq, Int.reduceNe, reduceCtorEq]
    exact ret_le (Hp.le_addSp _ _) ⟨by rw [typedB, e]; rfl, rfl⟩
def checkN (p : ProgG) : Int := if progB p = true then (if typedB p = true then 0 else 40) else 20
theorem ccheck_calls (p : ProgG) (hpf : PFit p) (hp : Hp) (hg : GOk hp) : ACalls Tryz.prog 18 [p.av] hp (fun r hp' => r = .v (.int .i64 (checkN p)) ∧ hp' = hp) := by
  refine acalls_of Tryz.func18 rfl (by decide +kernel) (awp_sound (mu := []) _ _ _ ?_)
  simp only [go_sem, Nat.reduceEqDiff, Nat.reduceAdd, Nat.reduceSub, Nat.reduceLT, Nat.reduceMul, Nat.reduceBEq, Nat.reduceLeDiff, ↓reduceIte, Int.reduceToNat, Nat.reduceGT, Int.reduceLE, Int.reduceLT, Int.reduceGE, Int.reduceGT, Int.reduceEq, Int.reduceNe, reduceCtorEq, ProgG.av, ProgG.cs]
  intro q1
  have c := validP_calls p hpf hp hg
  simp only [ProgG.av, ProgG.cs] at c
  refine callX_by c ?_
  clear c
  rintro r hp1 ⟨rfl, rfl⟩
  simp only [go_sem, Nat.reduceEqDiff, Nat.reduceAdd, Nat.reduceSub, Nat.reduceLT, Nat.reduceMul, Nat.reduceBEq, Nat.reduceLeDiff, ↓reduceIte, Int.reduceToNat, Nat.reduceGT, Int.reduceLE, Int.reduceLT, Int.reduceGE, Int.reduceGT, Int.reduceEq, Int.reduceNe, reduceCtorEq]
  refine brK_mk (fun b1 => ?_) (fun b1 => ?_) <;> simp only [go_sem, Nat.reduceEqDiff, Nat.reduceAdd, Nat.reduceSub, Nat.reduceLT, Nat.reduceMul, Nat.reduceBEq, Nat.reduceLeDiff, ↓reduceIte, Int.reduceToNat, Nat.reduceGT, Int.reduceLE, Int.reduceLT, Int.reduceGE, Int.reduceGT, Int.reduceEq, Int.reduceNe, reduceCtorEq, b1]
  · have c := typed_calls b1 hp1
    simp only [ProgG.av, ProgG.cs] at c
    refine callX_by c ?_
    clear c
    rintro r hp2 ⟨rfl, rfl⟩
    simp only [go_sem, Nat.reduceEqDiff, Nat.reduceAdd, Nat.reduceSub, Nat.reduceLT, Nat.reduceMul, Nat.reduceBEq, Nat.reduceLeDiff, ↓reduceIte, Int.reduceToNat, Nat.reduceGT, Int.reduceLE, Int.reduceLT, Int.reduceGE, Int.reduceGT, Int.reduceEq, Int.reduceNe, reduceCtorEq]
    refine brK_mk (fun b2 => ?_) (fun b2 => ?_) <;> simp only [go_sem, Nat.reduceEqDiff, Nat.reduceAdd, Nat.reduceSub, Nat.reduceLT, Nat.reduceMul, Nat.reduceBEq, Nat.reduceLeDiff, ↓reduceIte, Int.reduceToNat, Nat.reduceGT, Int.reduceLE, Int.reduceLT, Int.reduceGE, Int.reduceGT, Int.reduceEq, Int.reduceNe, reduceCtorEq, b2]
    · exact ret_same ⟨by rw [checkN, if_pos b1, if_pos b2], rfl⟩
    · exact ret_same ⟨by rw [checkN, if_pos b1, if_neg (by rw [b2]; decide)], rfl⟩
  · exact ret_same ⟨by rw [checkN, if_neg (by rw [b1]; decide)], rfl⟩
end Go.Proofs.YtkoachnlimebaaaGreatDoor
/- The layer 'check': Type. -/
set_option linter.unusedSimpArgs false
set_option linter.unusedVariables false
set_option maxRecDepth 20000
set_option maxHeartbeats 4000000
namespace Go.Proofs.YtkoachnlimebaaaGreatDoor
open Go.AL

end Go.Proofs.YtkoachnlimebaaaGreatDoor
